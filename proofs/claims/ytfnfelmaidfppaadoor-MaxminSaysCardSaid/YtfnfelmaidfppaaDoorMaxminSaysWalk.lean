/- MaxminSays returns true: of any links and ways what is wrong, and the shares, are as the document says. -/
import Derived.Test.YtfnfelmaidfppaaDoorTold
import Derived.Test.YtfnfelmaidfppaaDoorMaxWays
import Derived.Test.YtfnfelmaidfppaaDoorMaxRefShare
import Derived.Test.YtfnfelmaidfppaaDoorInts
namespace Go.Proofs.YtfnfelmaidfppaaDoor
open Go.RowKit
set_option linter.unusedVariables false

theorem mmOut_len (room : List Int) (ways : List (List Int)) : (mmOut room ways).length = ways.length := by unfold mmOut; rw [arr_len]
set_option maxHeartbeats 2000000 in
set_option maxRecDepth 100000 in
theorem maxminSays_walk (ro : Option Addr) (rc : Nat) (room : List Int) (ao : Option Addr) (ac : Nat) (rs : List Stp) (w : World) (hdoor : Door w) (hM : IntSl w.heap.size w ro room) (hrc : room.length ≤ rc) (hrx : rc ≤ maxLen) (_ : ∀ x ∈ room, -9223372036854775808 ≤ x ∧ x ≤ 9223372036854775807)
    (hA : RowSl w.heap.size w ao 1 (rs.map stpC)) (hac : rs.length ≤ ac) (hmax : ac ≤ maxLen) (hr : StpsOk w.heap.size w rs) :
    Calls Tryd.prog 3 #[.slice ro room.length rc, .slice ao rs.length ac] w fun e w' => e = .returned (.bool true) ∧ Below w.heap.size w w' := by
  unfold maxLen at hmax hrx
  have HM := Lib.hid hM; clear hM
  have HA := Lib.hid hA; clear hA
  have HR := Lib.hid hr; clear hr
  have HD := Lib.hid hdoor; clear hdoor
  obtain ⟨g, hg⟩ : ∃ g, g = w.heap.size := ⟨_, rfl⟩
  rw [← hg] at HM HA HR
  have HG := Lib.hid hg; clear hg
  have hdoor' : ∀ w', Below g w w' → Door w' := fun w' h => HD.out.below h (by rw [HG.out]; exact HD.out.pos)
  have HDOOR := Lib.hid hdoor'; clear hdoor' HD
  obtain ⟨c, hc⟩ : ∃ c, c = mmCode room (rowsOf rs) := ⟨_, rfl⟩
  have HC := Lib.hid hc
  clear hc
  have HSAME := Lib.hid (show ∀ w', Below g w w' → Calls Tryd.prog 5 #[errV c, .int .i64 c] w' fun x w'' => x = .returned (.bool true) ∧ Below w'.heap.size w' w'' from fun w' h => same_any c c true w' (HDOOR.out _ h) (by simp))
  obtain ⟨ev, hev⟩ : ∃ ev, ev = errV c := ⟨_, rfl⟩
  rw [← hev] at HSAME
  have HEV := Lib.hid hev
  clear hev
  go_enter Tryd.func3, Tryd.ntmps3
  go_wp2_with fail
  refine (ways_any ro room.length rc room ao rs.length ac g rs _ HM.out rfl (by omega) HA.out HR.out rfl (by omega)).mono ?_
  rintro e w1 ⟨rfl, hq⟩
  rw [← HC.out]
  have HB1 := Lib.hid (show Below g w w1 by obtain ⟨q, rfl⟩ := hq; exact below_drewN g w q)
  have hg1 : g ≤ w1.heap.size := by have := HB1.out.size; rw [← HG.out] at this; exact this
  clear hq
  go_wp2_with fail
  refine (mmCheck_any ro room.length rc room ao rs.length ac g rs _ (HM.out.below HB1.out) rfl (by omega) (HA.out.below HB1.out) (HR.out.below HB1.out) rfl (by omega)).mono ?_
  rintro e w' ⟨rfl, rfl⟩
  rw [← HC.out, ← HEV.out]
  go_wp2_with fail
  refine (HSAME.out _ HB1.out).mono ?_
  rintro e w2 ⟨rfl, hb⟩
  have HB2 := Lib.hid (HB1.out.trans (hb.mono hg1))
  have hg2 : g ≤ w2.heap.size := by have := HB2.out.size; rw [← HG.out] at this; exact this
  clear hb
  by_cases hc0 : c = 0
  · have hcb : (c == 0) = true := by simp [hc0]
    have hok := mmCode_zero.1 (HC.out.symm.trans hc0)
    have HOK := Lib.hid hok
    have hm6 := hok.links
    have hn5 : rs.length ≤ 5 := by rw [← rowsOf_len]; exact hok.few
    have he0 : ev = .nilIface := by rw [HEV.out, hc0]; rfl
    have HE0 := Lib.hid he0
    clear hok hc0 he0
    go_wp2_with fail
    refine (refShare_ok ro room.length rc room ao rs.length ac g rs _ (HM.out.below HB2.out) rfl (HA.out.below HB2.out) (HR.out.below HB2.out) rfl hg2 HOK.out).mono ?_
    rintro e w3 ⟨v1, rfl, hs, hb⟩
    obtain ⟨a1, c1, rfl, -, -⟩ := hs.intsShape (A := []) (C := [])
    have HX := Lib.hid (hs.intSl (A := []) (C := []))
    rw [mmOut_len, rowsOf_len]
    clear hs
    have HB3 := Lib.hid (HB2.out.trans (hb.mono hg2))
    have hg3 : g ≤ w3.heap.size := by have := HB3.out.size; rw [← HG.out] at this; exact this
    clear hb
    go_wp2_with fail
    refine (mmShare_ok ro room.length rc room ao rs.length ac g rs _ (HM.out.below HB3.out) rfl (HA.out.below HB3.out) (HR.out.below HB3.out) rfl hg3 HOK.out).mono ?_
    rintro e w4 ⟨v2, rfl, hs, hb⟩
    obtain ⟨a2, c2, rfl, -, -⟩ := hs.intsShape (A := []) (C := [])
    have HY := Lib.hid (hs.intSl (A := []) (C := []))
    rw [mmOut_len, rowsOf_len, ← HE0.out]
    have HX4 := Lib.hid ((HX.out.below hb).mono hb.size)
    clear hs HX
    have HB4 := Lib.hid (HB3.out.trans (hb.mono hg3))
    have hg4 : g ≤ w4.heap.size := by have := HB4.out.size; rw [← HG.out] at this; exact this
    clear hb
    go_wp2_with fail
    refine (HSAME.out _ HB4.out).mono ?_
    rintro e w5 ⟨rfl, hb⟩
    have HX5 := Lib.hid ((HX4.out.below hb).mono hb.size)
    have HY5 := Lib.hid ((HY.out.below hb).mono hb.size)
    clear HX4 HY
    have HB5 := Lib.hid (HB4.out.trans (hb.mono hg4))
    have hg5 : g ≤ w5.heap.size := by have := HB5.out.size; rw [← HG.out] at this; exact this
    clear hb
    have hml : (mmOut room (rowsOf rs)).length = rs.length := by rw [mmOut_len, rowsOf_len]
    have HML := Lib.hid hml
    clear hml
    go_wp2_with fail
    refine (ints_any _ _ _ _ _ _ _ _ _ _ true _ HY5.out HX5.out HML.out.symm HML.out.symm (by rw [HML.out]; omega) (by simp)).mono ?_
    rintro e w6 ⟨rfl, hd⟩
    have hb := below_of_drew hd
    clear hd
    have HB6 := Lib.hid (HB5.out.trans (hb.mono hg5))
    have hg6 : g ≤ w6.heap.size := by have := HB6.out.size; rw [← HG.out] at this; exact this
    clear hb
    go_wp2
    go_ret
    exact ⟨rfl, by have := HB6.out; rw [HG.out] at this; exact this⟩
  · have hcb : (c == 0) = false := by simp [hc0]
    have he1 : ev = .iface 36 (.int .i64 c) := by rw [HEV.out, errV_not hc0]
    have HE1 := Lib.hid he1
    have H0 := Lib.hid hc0
    clear hc0 he1
    go_wp2_with fail
    refine (mmShare_err ro room.length rc room ao rs.length ac g rs c _ (HM.out.below HB2.out) rfl (by omega) (HA.out.below HB2.out) (HR.out.below HB2.out) rfl (by omega) HC.out H0.out).mono ?_
    rintro e w' ⟨rfl, rfl⟩
    rw [← HE1.out]
    go_wp2_with fail
    refine (HSAME.out _ HB2.out).mono ?_
    rintro e w5 ⟨rfl, hb⟩
    have HB5 := Lib.hid (HB2.out.trans (hb.mono hg2))
    have hg5 : g ≤ w5.heap.size := by have := HB5.out.size; rw [← HG.out] at this; exact this
    clear hb
    go_wp2_with fail
    refine (ints_any _ _ _ _ _ _ 0 0 [] [] true _ (IntSl.nil _ _ _) (IntSl.nil _ _ _) rfl rfl (by decide) (by decide)).mono ?_
    rintro e w6 ⟨rfl, hd⟩
    have hb := below_of_drew hd
    clear hd
    have HB6 := Lib.hid (HB5.out.trans (hb.mono hg5))
    have hg6 : g ≤ w6.heap.size := by have := HB6.out.size; rw [← HG.out] at this; exact this
    clear hb
    go_wp2
    go_ret
    exact ⟨rfl, by have := HB6.out; rw [HG.out] at this; exact this⟩
end Go.Proofs.YtfnfelmaidfppaaDoor
