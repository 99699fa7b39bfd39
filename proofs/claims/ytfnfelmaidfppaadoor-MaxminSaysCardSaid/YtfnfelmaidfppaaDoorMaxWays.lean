/- ferryhytheref3.Ways: what is wrong with links, and with the ways over them. -/
import Derived.Test.YtfnfelmaidfppaaDoorMaxCheck
import Derived.Test.YtfnfelmaidfppaaDoorAllR
import Derived.Test.YtfnfelmaidfppaaDoorHas1
import Derived.BigQuiet
import Derived.Deep.DeepCutAuto
namespace Go.Proofs.YtfnfelmaidfppaaDoor
open Go.RowKit
set_option linter.unusedVariables false

set_option maxHeartbeats 2000000 in
theorem ways_any (ro : Option Addr) (rl rc : Nat) (room : List Int) (ao : Option Addr) (len ac B : Nat) (rs : List Stp) (w : World) (hM : IntSl B w ro room) (hrl : rl = room.length) (hrm : room.length ≤ 9223372036854775807)
    (hA : RowSl B w ao 1 (rs.map stpC)) (hr : StpsOk B w rs) (hlen : len = rs.length) (hl : rs.length ≤ 9223372036854775807) :
    Calls Tryd.prog 4 #[.slice ro rl rc, .slice ao len ac] w fun e w' => e = .returned (.int .i64 (mmCode room (rowsOf rs))) ∧ ∃ q, w' = w.drewN q := by
  subst hlen hrl
  have HM := Lib.hid hM; clear hM
  have HA := Lib.hid hA; clear hA
  have HR := Lib.hid hr; clear hr
  obtain ⟨c, hc⟩ : ∃ c, c = mmCode room (rowsOf rs) := ⟨_, rfl⟩
  rw [← hc]
  unfold mmCode at hc
  rw [rowsOf_len] at hc
  by_cases h6 : 6 < room.length
  · rw [if_pos (Or.inl h6)] at hc
    subst hc
    have hd : decide ((6 : Int) < (room.length : Int)) = true := decide_eq_true (by omega)
    go_enter Tryd.func4, Tryd.ntmps4
    go_wp2
    go_ret
    exact ⟨rfl, 0, rfl⟩
  by_cases h5 : 5 < rs.length
  · rw [if_pos (Or.inr h5)] at hc
    subst hc
    have hd : decide ((6 : Int) < (room.length : Int)) = false := decide_eq_false (by omega)
    have hd2 : decide ((5 : Int) < (rs.length : Int)) = true := decide_eq_true (by omega)
    go_enter Tryd.func4, Tryd.ntmps4
    go_wp2
    go_ret
    exact ⟨rfl, 0, rfl⟩
  rw [if_neg (by omega)] at hc
  have hd : decide ((6 : Int) < (room.length : Int)) = false := decide_eq_false (by omega)
  have hd2 : decide ((5 : Int) < (rs.length : Int)) = false := decide_eq_false (by omega)
  by_cases hall : ∀ x ∈ room, 0 ≤ x ∧ x ≤ 1000
  · rw [if_neg (by simpa using hall)] at hc
    have HC := Lib.hid hc; clear hc
    have HAL := Lib.hid hall; clear hall
    go_enter Tryd.func4, Tryd.ntmps4
    go_wp2_with fail
    refine (allR_any _ _ _ _ room 0 1000 true _ HM.out rfl hrm (by simpa using HAL.out)).mono ?_
    rintro e w' ⟨rfl, rfl⟩
    go_wp2
    go_loopg [5] rs.length (fun gk iv wr => ∃ k : Nat, gk + k = rs.length ∧ iv = .int .i64 k ∧ Hid (wsCode room.length ((rowsOf rs).drop k) = c) ∧ ∃ q, wr = w.drewN q)
    case atStart => exact ⟨0, by omega, rfl, by rw [HC.out]; rfl, 0, rfl⟩
    case round =>
      obtain ⟨gi, rfl⟩ : ∃ gi, gi = gk := ⟨_, rfl⟩
      obtain ⟨k, hgi, rfl, hcode, q, hwq⟩ := hrel
      have HWQ := Lib.hid hwq
      have hbw : Below B w wr := by rw [hwq]; exact below_drewN B w q
      have HBW := Lib.hid hbw
      clear hwq hbw
      by_cases hlt : k < rs.length
      · have hki : (k : Int) < (rs.length : Int) := by omega
        have hk0 : (0 : Int) ≤ (k : Int) := by omega
        obtain ⟨⟨ra, rc', xs⟩, hrk⟩ : ∃ r, rs[k]? = some r := ⟨_, List.getElem?_eq_getElem hlt⟩
        obtain ⟨b, off, rfl, hbb, c0⟩ := rows_at (HA.out.below HBW.out) hrk
        obtain ⟨hi, hrl, hrm2⟩ := HR.out _ (List.mem_iff_getElem?.2 ⟨k, hrk⟩)
        simp only at hi hrl hrm2 c0
        unfold maxLen at hrm2
        have hst := hcode.out
        rw [wsCode_step (rowsOf_get hrk)] at hst
        simp only at hst
        have HI := Lib.hid (hi.below HBW.out); clear hi
        have HRK := Lib.hid hrk; clear hrk
        by_cases h0 : xs.length = 0
        · have hq : wCode room.length xs = 5 := if_pos h0
          rw [hq, if_neg (by decide)] at hst
          have HST := Lib.hid hst
          have hd8 : ((xs.length : Int) == 0) = true := by simp [h0]
          clear h0 hst hq
          go_wp2
          go_ret
          exact ⟨ret_int HST.out, q, HWQ.out⟩
        · have hd8 : ((xs.length : Int) == 0) = false := by simp; intro e; simp [e] at h0
          by_cases hal : ∀ x ∈ xs, 0 ≤ x ∧ x ≤ (room.length : Int) - 1
          · have hq2 : wCode room.length xs = if xs.Nodup then 0 else 6 := by unfold wCode; rw [if_neg h0, if_neg (by simpa using hal)]
            rw [hq2] at hst
            have HST := Lib.hid hst; clear hst hq2
            have HAL2 := Lib.hid hal; clear hal h0
            go_wp2_with fail
            refine (allR_any _ _ _ _ xs 0 ((room.length : Int) - 1) true _ HI.out rfl (by omega) (by have := HAL2.out; simpa using this)).mono ?_
            rintro e w' ⟨rfl, rfl⟩
            obtain ⟨w1, hw1⟩ : ∃ w1, w1 = wr := ⟨_, rfl⟩
            obtain rfl := hw1
            go_wp2
            go_loopg [7] xs.length (fun gk iv wx => ∃ j : Nat, gk + j = xs.length ∧ iv = .int .i64 j ∧ Hid ((xs.take j).Nodup) ∧ ∃ q, wx = w1.drewN q)
            case atStart => exact ⟨0, by omega, rfl, by simp [Hid], 0, rfl⟩
            case round =>
              obtain ⟨gj, rfl⟩ : ∃ gj, gj = gk := ⟨_, rfl⟩
              obtain ⟨j, hgj, rfl, hnd, q2, hwx⟩ := hrel
              have HWX := Lib.hid hwx
              have HIX := Lib.hid (show IntSl B wr ra xs by rw [hwx]; exact HI.out.below (below_drewN B w1 q2))
              clear hwx c0
              by_cases hjl : j < xs.length
              · have hji : (j : Int) < (xs.length : Int) := by omega
                have hj0 : (0 : Int) ≤ (j : Int) := by omega
                obtain ⟨x, hx⟩ : ∃ x, xs[j]? = some x := ⟨_, List.getElem?_eq_getElem hjl⟩
                obtain ⟨b2, o2, rfl, _, cx⟩ := HIX.out j x hx
                have HX := Lib.hid hx; clear hx
                have HTK := Lib.hid (HIX.out.take (k := j))
                have hjc : j ≤ rc' := by omega
                have hjci : (j : Int) ≤ (rc' : Int) := by omega
                by_cases hm : x ∈ xs.take j
                · have hnn := not_nodup HX.out hm
                  have hst := HST.out
                  rw [if_neg hnn, if_neg (by decide)] at hst
                  have HST2 := Lib.hid hst
                  have HHA := Lib.hid (show ∀ n, Calls Tryd.prog 11 #[.slice (some ⟨b2, o2, none⟩) j rc', .int .i64 x] (wr.drewN n) fun e w' => e = .returned (.bool true) ∧ wr.drewN n = w' from fun n =>
                    has1_any _ _ _ _ (xs.take j) x true _ (HTK.out.below (below_drewN B wr n)) (by simp; omega) (by simp; omega) (by simpa using hm))
                  clear hm hst hnn
                  go_wp2_with fail
                  go_quiet (first | (go_at_call 11; exact quiet_id (HHA.out _) ⟨_, rfl⟩))
                  clear cx
                  go_wp2
                  go_ret
                  exact ⟨ret_int HST2.out, by
                    rw [HWX.out, HWQ.out]
                    exact ⟨q + q2 + nq, by simp [World.drewN, Nat.add_assoc]⟩⟩
                · have HM2 := Lib.hid hm
                  have HHA := Lib.hid (show ∀ n, Calls Tryd.prog 11 #[.slice (some ⟨b2, o2, none⟩) j rc', .int .i64 x] (wr.drewN n) fun e w' => e = .returned (.bool false) ∧ wr.drewN n = w' from fun n =>
                    has1_any _ _ _ _ (xs.take j) x false _ (HTK.out.below (below_drewN B wr n)) (by simp; omega) (by simp; omega) (by simpa using hm))
                  clear hm
                  go_wp2_with fail
                  go_quiet (first | (go_at_call 11; exact quiet_id (HHA.out _) ⟨_, rfl⟩))
                  clear cx
                  go_wp2
                  go_roundg (gj - 1)
                  case measure => omega
                  case rel => exact ⟨j + 1, by omega, by go_num, nodup_take_succ hnd.out HX.out HM2.out, by
                    rw [HWX.out]
                    exact ⟨q2 + nq, by simp [World.drewN, Nat.add_assoc]⟩⟩
              · have hjd : decide ((j : Int) < (xs.length : Int)) = false := decide_eq_false (by omega)
                have hst := HST.out
                have hn := hnd.out
                rw [List.take_of_length_le (by omega)] at hn
                rw [if_pos hn, if_pos rfl] at hst
                have HST2 := Lib.hid hst; clear hst hn
                go_wp2
                go_roundg (gi - 1)
                case measure => omega
                case rel => exact ⟨k + 1, by omega, by go_num, HST2.out, by
                  rw [HWX.out, HWQ.out]
                  exact ⟨q + q2, by simp [World.drewN, Nat.add_assoc]⟩⟩
          · have hq : wCode room.length xs = 1 := by unfold wCode; rw [if_neg h0, if_pos hal]
            rw [hq, if_neg (by decide)] at hst
            have HST := Lib.hid hst
            have HAL2 := Lib.hid hal
            clear hal h0 hst hq
            go_wp2_with fail
            refine (allR_any _ _ _ _ xs 0 ((room.length : Int) - 1) false _ HI.out rfl (by omega) (by have := HAL2.out; simpa using this)).mono ?_
            rintro e w' ⟨rfl, rfl⟩
            go_wp2
            go_ret
            exact ⟨ret_int HST.out, q, HWQ.out⟩
      · have hkd : decide ((k : Int) < (rs.length : Int)) = false := decide_eq_false (by omega)
        have hc0 : c = 0 := by
          have := hcode.out
          rw [List.drop_of_length_le (by rw [rowsOf_len]; omega)] at this
          exact this.symm
        have HC0 := Lib.hid hc0; clear hc0
        go_wp2
        go_ret
        exact ⟨ret_int HC0.out.symm, q, HWQ.out⟩
  · rw [if_pos hall] at hc
    subst hc
    have HAL := Lib.hid hall; clear hall
    go_enter Tryd.func4, Tryd.ntmps4
    go_wp2_with fail
    refine (allR_any _ _ _ _ room 0 1000 false _ HM.out rfl hrm (by have := HAL.out; simpa using this)).mono ?_
    rintro e w' ⟨rfl, rfl⟩
    go_wp2
    go_ret
    exact ⟨rfl, 0, rfl⟩
end Go.Proofs.YtfnfelmaidfppaaDoor
