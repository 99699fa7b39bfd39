/- DrrSays returns true: of any queues what is wrong, and in which order all is served, is as the document says. -/
import Derived.Test.YtommedhaaojgiaaDoorSays
import Derived.Test.YtommedhaaojgiaaDoorDrrTurnsRef
import Derived.Test.YtommedhaaojgiaaDoorDrrLaw
import Derived.Test.YtommedhaaojgiaaDoorInts
import Derived.Test.YtommedhaaojgiaaDoorIn3
namespace Go.Proofs.YtommedhaaojgiaaDoor
open Go.RowKit
set_option linter.unusedVariables false

set_option maxHeartbeats 1000000 in
set_option maxRecDepth 100000 in
theorem drrSays_wrong (ao : Option Addr) (ac g : Nat) (rs : List Stp) (Q c : Int) (w : World) (hG : g = w.heap.size) (hc : (c == 0) = false) (hs : SaysC g w c) (hA : RowSl g w ao 1 (rs.map stpC)) (hr : StpsOk g w rs) (hl : rs.length ≤ 9223372036854775807) (hw : checkCode (rowsOf rs) = c) :
    Calls Tryd.prog 5 #[.slice ao rs.length ac, .int .i64 Q] w fun e w' => e = .returned (.bool true) ∧ Below w.heap.size w w' := by
  have hc0 : c ≠ 0 := by simpa using hc
  have HC0 := Lib.hid hc0; clear hc0
  have HRC := Lib.hid (show c = runCode (rowsOf rs) Q by unfold runCode; rw [if_neg (by rw [hw]; exact HC0.out), hw])
  have HA := Lib.hid hA; clear hA
  have HR := Lib.hid hr; clear hr
  have HG := Lib.hid hG; clear hG
  have HSAMEc := Lib.hid hs; clear hs
  have HW := Lib.hid hw; clear hw
  have HLN := Lib.hid hl; clear hl
  have HB1 := Lib.hid (Below.refl g w)
  have hg1 : g ≤ w.heap.size := by have := HG.out; omega
  go_enter Tryd.func5, Tryd.ntmps5
  go_wp2_with fail
  refine (queuesH_any _ _ _ _ rs _ HA.out HR.out rfl HLN.out).mono ?_
  rintro e w' ⟨rfl, rfl⟩
  rw [HW.out]
  go_wp2_with fail
  refine (drrCheck_any _ _ _ _ rs _ HA.out HR.out rfl HLN.out).mono ?_
  rintro e w' ⟨rfl, rfl⟩
  rw [HW.out, errV_not HC0.out]
  go_wp2_with fail
  refine (HSAMEc.out _ HB1.out).mono ?_
  rintro e w2 ⟨rfl, hb⟩
  have HB2 := Lib.hid (HB1.out.trans (hb.mono hg1))
  have hg2 : g ≤ w2.heap.size := by have := HB2.out.size; rw [← HG.out] at this; exact this
  clear hb
  go_wp2_with fail
  refine (drrRun_err _ _ _ _ rs Q c _ (HA.out.below HB2.out) (HR.out.below HB2.out) rfl HLN.out HRC.out HC0.out).mono ?_
  rintro e w' ⟨rfl, rfl⟩
  go_wp2_with fail
  refine (HSAMEc.out _ HB2.out).mono ?_
  rintro e w3 ⟨rfl, hb⟩
  have HB3 := Lib.hid (HB2.out.trans (hb.mono hg2))
  have hg3 : g ≤ w3.heap.size := by have := HB3.out.size; rw [← HG.out] at this; exact this
  clear hb
  go_wp2_with fail
  refine (ints_any _ _ _ _ _ _ 0 0 [] [] true _ (IntSl.nil _ _ _) (IntSl.nil _ _ _) rfl rfl (by decide) (by decide)).mono ?_
  rintro e w4 ⟨rfl, hd⟩
  have hb := below_of_drew hd
  clear hd
  have HB4 := Lib.hid (HB3.out.trans (hb.mono hg3))
  have hg4 : g ≤ w4.heap.size := by have := HB4.out.size; rw [← HG.out] at this; exact this
  clear hb
  go_wp2
  go_ret
  exact ⟨rfl, by have := HB4.out; rw [HG.out] at this; exact this⟩
set_option maxHeartbeats 1000000 in
set_option maxRecDepth 100000 in
theorem drrSays_quantum (ao : Option Addr) (ac g : Nat) (rs : List Stp) (Q : Int) (w : World) (hG : g = w.heap.size) (hs0 : Says0 g w) (hs : SaysC g w 1) (hA : RowSl g w ao 1 (rs.map stpC)) (hr : StpsOk g w rs) (hl : rs.length ≤ 9223372036854775807) (hw : checkCode (rowsOf rs) = 0) (hq : ¬ (1 ≤ Q ∧ Q ≤ 20)) :
    Calls Tryd.prog 5 #[.slice ao rs.length ac, .int .i64 Q] w fun e w' => e = .returned (.bool true) ∧ Below w.heap.size w w' := by
  have HC0 := Lib.hid (show (1 : Int) ≠ 0 by decide)
  have HRC := Lib.hid (show (1 : Int) = runCode (rowsOf rs) Q by unfold runCode; rw [if_pos hw, if_neg hq])
  have HA := Lib.hid hA; clear hA
  have HR := Lib.hid hr; clear hr
  have HG := Lib.hid hG; clear hG
  have HSAME0 := Lib.hid hs0; clear hs0
  have HSAME1 := Lib.hid hs; clear hs
  have HW := Lib.hid hw; clear hw
  have HLN := Lib.hid hl; clear hl
  have HQ := Lib.hid hq; clear hq
  have HB1 := Lib.hid (Below.refl g w)
  have hg1 : g ≤ w.heap.size := by have := HG.out; omega
  go_enter Tryd.func5, Tryd.ntmps5
  go_wp2_with fail
  refine (queuesH_any _ _ _ _ rs _ HA.out HR.out rfl HLN.out).mono ?_
  rintro e w' ⟨rfl, rfl⟩
  rw [HW.out]
  go_wp2_with fail
  refine (drrCheck_any _ _ _ _ rs _ HA.out HR.out rfl HLN.out).mono ?_
  rintro e w' ⟨rfl, rfl⟩
  rw [HW.out, errV_zero]
  go_wp2_with fail
  refine (HSAME0.out _ HB1.out).mono ?_
  rintro e w2 ⟨rfl, hb⟩
  have HB2 := Lib.hid (HB1.out.trans (hb.mono hg1))
  have hg2 : g ≤ w2.heap.size := by have := HB2.out.size; rw [← HG.out] at this; exact this
  clear hb
  go_wp2_with fail
  refine (in3_no _ _ _ _ HQ.out).mono ?_
  rintro e w' ⟨rfl, rfl⟩
  go_wp2_with fail
  refine (drrRun_err _ _ _ _ rs Q 1 _ (HA.out.below HB2.out) (HR.out.below HB2.out) rfl HLN.out HRC.out HC0.out).mono ?_
  rintro e w' ⟨rfl, rfl⟩
  go_wp2_with fail
  refine (HSAME1.out _ HB2.out).mono ?_
  rintro e w3 ⟨rfl, hb⟩
  have HB3 := Lib.hid (HB2.out.trans (hb.mono hg2))
  have hg3 : g ≤ w3.heap.size := by have := HB3.out.size; rw [← HG.out] at this; exact this
  clear hb
  go_wp2_with fail
  refine (ints_any _ _ _ _ _ _ 0 0 [] [] true _ (IntSl.nil _ _ _) (IntSl.nil _ _ _) rfl rfl (by decide) (by decide)).mono ?_
  rintro e w4 ⟨rfl, hd⟩
  have hb := below_of_drew hd
  clear hd
  have HB4 := Lib.hid (HB3.out.trans (hb.mono hg3))
  have hg4 : g ≤ w4.heap.size := by have := HB4.out.size; rw [← HG.out] at this; exact this
  clear hb
  go_wp2
  go_ret
  exact ⟨rfl, by have := HB4.out; rw [HG.out] at this; exact this⟩
set_option maxHeartbeats 1000000 in
set_option maxRecDepth 100000 in
theorem drrSays_ok (ao : Option Addr) (ac g : Nat) (rs : List Stp) (Q : Int) (w : World) (hG : g = w.heap.size) (hs0 : Says0 g w) (hA : RowSl g w ao 1 (rs.map stpC)) (hr : StpsOk g w rs) (hl : rs.length ≤ 9223372036854775807) (hw : checkCode (rowsOf rs) = 0) (hq1 : 1 ≤ Q) (hq2 : Q ≤ 20) :
    Calls Tryd.prog 5 #[.slice ao rs.length ac, .int .i64 Q] w fun e w' => e = .returned (.bool true) ∧ Below w.heap.size w w' := by
  have hok := checkCode_zero.1 hw
  have HA := Lib.hid hA; clear hA
  have HR := Lib.hid hr; clear hr
  have HG := Lib.hid hG; clear hG
  have HSAME0 := Lib.hid hs0; clear hs0
  have HW := Lib.hid hw; clear hw
  have HLN := Lib.hid hl; clear hl
  obtain ⟨R, hR⟩ : ∃ R, R = drrOut (rowsOf rs) Q.toNat := ⟨_, rfl⟩
  have hrl : R.length ≤ 40 := by rw [hR, drr_total hok (by omega)]; exact drrTot_le hok
  have HOK := Lib.hid hok; clear hok
  have HRR := Lib.hid hR; clear hR
  have HB1 := Lib.hid (Below.refl g w)
  have hg1 : g ≤ w.heap.size := by have := HG.out; omega
  go_enter Tryd.func5, Tryd.ntmps5
  go_wp2_with fail
  refine (queuesH_any _ _ _ _ rs _ HA.out HR.out rfl HLN.out).mono ?_
  rintro e w' ⟨rfl, rfl⟩
  rw [HW.out]
  go_wp2_with fail
  refine (drrCheck_any _ _ _ _ rs _ HA.out HR.out rfl HLN.out).mono ?_
  rintro e w' ⟨rfl, rfl⟩
  rw [HW.out, errV_zero]
  go_wp2_with fail
  refine (HSAME0.out _ HB1.out).mono ?_
  rintro e w2 ⟨rfl, hb⟩
  have HB2 := Lib.hid (HB1.out.trans (hb.mono hg1))
  have hg2 : g ≤ w2.heap.size := by have := HB2.out.size; rw [← HG.out] at this; exact this
  clear hb
  go_wp2_with fail
  refine (in3_yes _ _ _ _ hq1 hq2).mono ?_
  rintro e w' ⟨rfl, rfl⟩
  go_wp2_with fail
  refine (drrRef_ok _ _ _ _ rs Q _ (HA.out.below HB2.out) (HR.out.below HB2.out) rfl hg2 HOK.out ⟨hq1, hq2⟩).mono ?_
  rintro e w3 ⟨va, rfl, hs, hb⟩
  rw [← HRR.out] at hs
  obtain ⟨a1, k1, rfl, -⟩ := hs.intsShape (A := []) (C := [])
  have HL3 := Lib.hid hs
  clear hs
  have HB3 := Lib.hid (HB2.out.trans (hb.mono hg2))
  have hg3 : g ≤ w3.heap.size := by have := HB3.out.size; rw [← HG.out] at this; exact this
  clear hb
  go_wp2_with fail
  refine (drrRun_ok _ _ _ _ rs Q _ (HA.out.below HB3.out) (HR.out.below HB3.out) rfl hg3 HOK.out ⟨hq1, hq2⟩).mono ?_
  rintro e w4 ⟨va, rfl, hs, hb⟩
  rw [← HRR.out] at hs
  obtain ⟨a2, k2, rfl, -⟩ := hs.intsShape (A := []) (C := [])
  have HP4 := Lib.hid hs
  have HL4 := Lib.hid (HL3.out.kept hb)
  clear hs HL3
  have HB4 := Lib.hid (HB3.out.trans (hb.mono hg3))
  have hg4 : g ≤ w4.heap.size := by have := HB4.out.size; rw [← HG.out] at this; exact this
  clear hb
  go_wp2_with fail
  refine (HSAME0.out _ HB4.out).mono ?_
  rintro e w5 ⟨rfl, hb⟩
  have HP5 := Lib.hid (HP4.out.kept hb)
  have HL5 := Lib.hid (HL4.out.kept hb)
  clear HP4 HL4
  have HB5 := Lib.hid (HB4.out.trans (hb.mono hg4))
  have hg5 : g ≤ w5.heap.size := by have := HB5.out.size; rw [← HG.out] at this; exact this
  clear hb
  go_wp2_with fail
  refine (ints_any _ _ _ _ _ _ _ _ R R true _ (HP5.out.intSl (A := []) (C := [])) (HL5.out.intSl (A := []) (C := [])) rfl rfl (by omega) (decide_eq_true rfl).symm).mono ?_
  rintro e w6 ⟨rfl, hd⟩
  have hb := below_of_drew hd
  clear HP5 HL5 hd
  have HB6 := Lib.hid (HB5.out.trans (hb.mono hg5))
  have hg6 : g ≤ w6.heap.size := by have := HB6.out.size; rw [← HG.out] at this; exact this
  clear hb
  go_wp2
  go_ret
  exact ⟨rfl, by have := HB6.out; rw [HG.out] at this; exact this⟩
theorem drrSays_walk (ao : Option Addr) (ac : Nat) (rs : List Stp) (Q : Int) (w : World) (hdoor : Door w) (hA : RowSl w.heap.size w ao 1 (rs.map stpC)) (hac : rs.length ≤ ac) (hmax : ac ≤ maxLen) (hr : StpsOk w.heap.size w rs)
    (_ : -9223372036854775808 ≤ Q ∧ Q ≤ 9223372036854775807) :
    Calls Tryd.prog 5 #[.slice ao rs.length ac, .int .i64 Q] w fun e w' => e = .returned (.bool true) ∧ Below w.heap.size w w' := by
  unfold maxLen at hmax
  by_cases h0 : checkCode (rowsOf rs) = 0
  · by_cases hq : 1 ≤ Q ∧ Q ≤ 20
    · exact drrSays_ok ao ac _ rs Q w rfl (says0 w hdoor) hA hr (by omega) h0 hq.1 hq.2
    · exact drrSays_quantum ao ac _ rs Q w rfl (says0 w hdoor) (saysC 1 (by decide) w hdoor) hA hr (by omega) h0 hq
  · exact drrSays_wrong ao ac _ rs Q _ w rfl (by simpa using h0) (saysC _ h0 w hdoor) hA hr (by omega) rfl
end Go.Proofs.YtommedhaaojgiaaDoor
