/- RingSays returns true: of any stations what is wrong, who sends, and how much others send between, are as the document says. -/
import Derived.Test.YtommedhaaojgiaaDoorTold
import Derived.Test.YtommedhaaojgiaaDoorRingTurnsRef
import Derived.Test.YtommedhaaojgiaaDoorRingGap
import Derived.Test.YtommedhaaojgiaaDoorInts
import Derived.Test.YtommedhaaojgiaaDoorIn4
namespace Go.Proofs.YtommedhaaojgiaaDoor
open Go.RowKit
set_option linter.unusedVariables false

/-- What is wrong with the stations. -/
def RingWrong (ws : List Int) (c : Int) : Prop :=
  (ws.length = 0 ∧ c = 5) ∨ (8 < ws.length ∧ c = 4) ∨ (0 < ws.length ∧ ws.length ≤ 8 ∧ ¬ (∀ x ∈ ws, 0 ≤ x ∧ x ≤ 20) ∧ c = 1)
theorem RingWrong.bad {ws : List Int} {c h : Int} (g : RingWrong ws c) : RingBad ws h c := by
  rcases g with g | g | g
  · exact .inl g
  · exact .inr (.inl g)
  · exact .inr (.inr (.inl g))
/-- What ferryhythesame.Error says of the error c. -/
def SaysC (g : Nat) (w : World) (c : Int) : Prop :=
  ∀ w', Below g w w' → Calls Tryd.prog 11 #[.iface 62 (.int .i64 c), .int .i64 c] w' fun x w'' => x = .returned (.bool true) ∧ Below w'.heap.size w' w''
def Says0 (g : Nat) (w : World) : Prop :=
  ∀ w', Below g w w' → Calls Tryd.prog 11 #[.nilIface, .int .i64 0] w' fun x w'' => x = .returned (.bool true) ∧ Below w'.heap.size w' w''
theorem saysC (c : Int) (hc : c = 1 ∨ c = 4 ∨ c = 5) (w : World) (hdoor : Door w) : SaysC w.heap.size w c := fun w' h => by
  have := same_any c c true w' (hdoor.below h hdoor.pos) (by simp)
  rw [errV_not (by omega)] at this
  exact this
theorem says0 (w : World) (hdoor : Door w) : Says0 w.heap.size w := fun w' h => by
  have := same_any 0 0 true w' (hdoor.below h hdoor.pos) rfl
  rw [errV_zero] at this
  exact this

set_option maxHeartbeats 1000000 in
set_option maxRecDepth 100000 in
theorem ringSays_wrong (ao : Option Addr) (ac g : Nat) (ws : List Int) (h c : Int) (w : World) (hG : g = w.heap.size) (hc : (c == 0) = false) (hs : SaysC g w c) (hA : IntSl g w ao ws) (hl : ws.length ≤ 9223372036854775807) (hw : RingWrong ws c) :
    Calls Tryd.prog 6 #[.slice ao ws.length ac, .int .i64 h] w fun e w' => e = .returned (.bool true) ∧ Below w.heap.size w w' := by
  have HA := Lib.hid hA; clear hA
  have HG := Lib.hid hG; clear hG
  have HSAMEc := Lib.hid hs; clear hs
  have HW := Lib.hid hw; clear hw
  have HLN := Lib.hid hl; clear hl
  have HB1 := Lib.hid (Below.refl g w)
  have HBAD := Lib.hid (HW.out.bad (h := h))
  have hg1 : g ≤ w.heap.size := by have := HG.out; omega
  go_enter Tryd.func6, Tryd.ntmps6
  go_wp2_with fail
  refine (waitsB_err _ _ _ _ ws c _ HA.out rfl HLN.out HW.out).mono ?_
  rintro e w' ⟨rfl, rfl⟩
  go_wp2_with fail
  refine (ringCheck_err _ _ _ _ ws c _ HA.out rfl HLN.out HW.out).mono ?_
  rintro e w' ⟨rfl, rfl⟩
  go_wp2_with fail
  refine (HSAMEc.out _ HB1.out).mono ?_
  rintro e w2 ⟨rfl, hb⟩
  have HB2 := Lib.hid (HB1.out.trans (hb.mono hg1))
  have hg2 : g ≤ w2.heap.size := by have := HB2.out.size; rw [← HG.out] at this; exact this
  clear hb
  go_wp2_with fail
  refine (ringRun_err _ _ _ _ ws h c _ (HA.out.below HB2.out) rfl HLN.out HBAD.out).mono ?_
  rintro e w' ⟨rfl, rfl⟩
  go_wp2_with fail
  refine (HSAMEc.out _ HB2.out).mono ?_
  rintro e w3 ⟨rfl, hb⟩
  have HB3 := Lib.hid (HB2.out.trans (hb.mono hg2))
  have hg3 : g ≤ w3.heap.size := by have := HB3.out.size; rw [← HG.out] at this; exact this
  clear hb
  go_wp2_with fail
  refine (ints_any _ _ _ _ _ _ 0 0 [] [] true _ (IntSl.nil _ _ _) (IntSl.nil _ _ _) rfl rfl (by decide) (by decide)).mono ?_
  rintro e w4 ⟨rfl, hd⟩
  have hb := below_of_drew hd
  clear hd
  have HB4 := Lib.hid (HB3.out.trans (hb.mono hg3))
  have hg4 : g ≤ w4.heap.size := by have := HB4.out.size; rw [← HG.out] at this; exact this
  clear hb
  go_wp2_with fail
  refine (ringGap_err _ _ _ _ ws h c _ (HA.out.below HB4.out) rfl HLN.out HBAD.out).mono ?_
  rintro e w' ⟨rfl, rfl⟩
  go_wp2_with fail
  refine (HSAMEc.out _ HB4.out).mono ?_
  rintro e w5 ⟨rfl, hb⟩
  have HB5 := Lib.hid (HB4.out.trans (hb.mono hg4))
  have hg5 : g ≤ w5.heap.size := by have := HB5.out.size; rw [← HG.out] at this; exact this
  clear hb
  go_wp2
  go_ret
  exact ⟨rfl, by have := HB5.out; rw [HG.out] at this; exact this⟩
set_option maxHeartbeats 1000000 in
set_option maxRecDepth 100000 in
theorem ringSays_hold (ao : Option Addr) (ac g : Nat) (ws : List Int) (h : Int) (w : World) (hG : g = w.heap.size) (hs0 : Says0 g w) (hs : SaysC g w 1) (hA : IntSl g w ao ws) (hp0 : 0 < ws.length) (hp8 : ws.length ≤ 8) (hr : ∀ x ∈ ws, 0 ≤ x ∧ x ≤ 20) (hh : ¬ (1 ≤ h ∧ h ≤ 20)) :
    Calls Tryd.prog 6 #[.slice ao ws.length ac, .int .i64 h] w fun e w' => e = .returned (.bool true) ∧ Below w.heap.size w w' := by
  have HA := Lib.hid hA; clear hA
  have HG := Lib.hid hG; clear hG
  have HSAME0 := Lib.hid hs0; clear hs0
  have HSAME1 := Lib.hid hs; clear hs
  have HR := Lib.hid hr; clear hr
  have HB1 := Lib.hid (Below.refl g w)
  have hg1 : g ≤ w.heap.size := by have := HG.out; omega
  have HLN := Lib.hid (show ws.length ≤ 9223372036854775807 by omega)
  have HH := Lib.hid hh
  have HBAD := Lib.hid (show RingBad ws h 1 from .inr (.inr (.inr ⟨hp0, hp8, HR.out, hh, rfl⟩)))
  clear hh
  go_enter Tryd.func6, Tryd.ntmps6
  go_wp2_with fail
  refine (waitsB_ok _ _ _ _ ws _ HA.out rfl hp0 hp8 HR.out).mono ?_
  rintro e w' ⟨rfl, rfl⟩
  go_wp2_with fail
  refine (ringCheck_ok _ _ _ _ ws _ HA.out rfl hp0 hp8 HR.out).mono ?_
  rintro e w' ⟨rfl, rfl⟩
  go_wp2_with fail
  refine (HSAME0.out _ HB1.out).mono ?_
  rintro e w2 ⟨rfl, hb⟩
  have HB2 := Lib.hid (HB1.out.trans (hb.mono hg1))
  have hg2 : g ≤ w2.heap.size := by have := HB2.out.size; rw [← HG.out] at this; exact this
  clear hb
  go_wp2_with fail
  refine (in4_no _ _ _ _ HH.out).mono ?_
  rintro e w' ⟨rfl, rfl⟩
  go_wp2_with fail
  refine (ringRun_err _ _ _ _ ws h 1 _ (HA.out.below HB2.out) rfl HLN.out HBAD.out).mono ?_
  rintro e w' ⟨rfl, rfl⟩
  go_wp2_with fail
  refine (HSAME1.out _ HB2.out).mono ?_
  rintro e w3 ⟨rfl, hb⟩
  have HB3 := Lib.hid (HB2.out.trans (hb.mono hg2))
  have hg3 : g ≤ w3.heap.size := by have := HB3.out.size; rw [← HG.out] at this; exact this
  clear hb
  go_wp2_with fail
  refine (ints_any _ _ _ _ _ _ 0 0 [] [] true _ (IntSl.nil _ _ _) (IntSl.nil _ _ _) rfl rfl (by decide) (by decide)).mono ?_
  rintro e w4 ⟨rfl, hd⟩
  have hb := below_of_drew hd
  clear hd
  have HB4 := Lib.hid (HB3.out.trans (hb.mono hg3))
  have hg4 : g ≤ w4.heap.size := by have := HB4.out.size; rw [← HG.out] at this; exact this
  clear hb
  go_wp2_with fail
  refine (ringGap_err _ _ _ _ ws h 1 _ (HA.out.below HB4.out) rfl HLN.out HBAD.out).mono ?_
  rintro e w' ⟨rfl, rfl⟩
  go_wp2_with fail
  refine (HSAME1.out _ HB4.out).mono ?_
  rintro e w5 ⟨rfl, hb⟩
  have HB5 := Lib.hid (HB4.out.trans (hb.mono hg4))
  have hg5 : g ≤ w5.heap.size := by have := HB5.out.size; rw [← HG.out] at this; exact this
  clear hb
  go_wp2
  go_ret
  exact ⟨rfl, by have := HB5.out; rw [HG.out] at this; exact this⟩
set_option maxHeartbeats 1000000 in
set_option maxRecDepth 100000 in
theorem ringSays_ok (ao : Option Addr) (ac g : Nat) (ws : List Int) (h : Int) (w : World) (hG : g = w.heap.size) (hs0 : Says0 g w) (hA : IntSl g w ao ws) (hp0 : 0 < ws.length) (hp8 : ws.length ≤ 8) (hr : ∀ x ∈ ws, 0 ≤ x ∧ x ≤ 20) (hh1 : 1 ≤ h) (hh2 : h ≤ 20) :
    Calls Tryd.prog 6 #[.slice ao ws.length ac, .int .i64 h] w fun e w' => e = .returned (.bool true) ∧ Below w.heap.size w w' := by
  have HA := Lib.hid hA; clear hA
  have HG := Lib.hid hG; clear hG
  have HSAME0 := Lib.hid hs0; clear hs0
  have HR := Lib.hid hr; clear hr
  have HB1 := Lib.hid (Below.refl g w)
  have hg1 : g ≤ w.heap.size := by have := HG.out; omega
  have HOK := Lib.hid (show RingOk ws h from ⟨hp0, hp8, HR.out, hh1, hh2⟩)
  go_enter Tryd.func6, Tryd.ntmps6
  go_wp2_with fail
  refine (waitsB_ok _ _ _ _ ws _ HA.out rfl hp0 hp8 HR.out).mono ?_
  rintro e w' ⟨rfl, rfl⟩
  go_wp2_with fail
  refine (ringCheck_ok _ _ _ _ ws _ HA.out rfl hp0 hp8 HR.out).mono ?_
  rintro e w' ⟨rfl, rfl⟩
  go_wp2_with fail
  refine (HSAME0.out _ HB1.out).mono ?_
  rintro e w2 ⟨rfl, hb⟩
  have HB2 := Lib.hid (HB1.out.trans (hb.mono hg1))
  have hg2 : g ≤ w2.heap.size := by have := HB2.out.size; rw [← HG.out] at this; exact this
  clear hb
  go_wp2_with fail
  refine (in4_yes _ _ _ _ hh1 hh2).mono ?_
  rintro e w' ⟨rfl, rfl⟩
  go_wp2_with fail
  refine (ringRef_ok _ _ _ _ ws h _ (HA.out.below HB2.out) rfl hg2 HOK.out).mono ?_
  rintro e w3 ⟨va, rfl, hs, hb⟩
  obtain ⟨R, hR⟩ : ∃ R, R = ringOut ws h.toNat := ⟨_, rfl⟩
  have hrl : R.length ≤ 320 := by rw [hR]; exact ringOut_len HR.out hp8
  rw [← hR] at hs
  have HRR := Lib.hid hR
  obtain ⟨a1, k1, rfl, -⟩ := hs.intsShape (A := []) (C := [])
  have HL3 := Lib.hid hs
  clear hs hR
  have HB3 := Lib.hid (HB2.out.trans (hb.mono hg2))
  have hg3 : g ≤ w3.heap.size := by have := HB3.out.size; rw [← HG.out] at this; exact this
  clear hb
  go_wp2_with fail
  refine (gapRef_any _ _ _ _ R _ (HL3.out.intSl (A := []) (C := [])) rfl (by omega)).mono ?_
  rintro e w4 ⟨rfl, hd⟩
  have hb := below_of_drew hd
  have HL4 := Lib.hid (HL3.out.kept hb)
  clear HL3 hd
  have HB4 := Lib.hid (HB3.out.trans (hb.mono hg3))
  have hg4 : g ≤ w4.heap.size := by have := HB4.out.size; rw [← HG.out] at this; exact this
  clear hb
  go_wp2_with fail
  refine (ringRun_ok _ _ _ _ ws h _ (HA.out.below HB4.out) rfl hg4 HOK.out).mono ?_
  rintro e w5 ⟨va, rfl, hs, hb⟩
  rw [← HRR.out] at hs
  obtain ⟨a2, k2, rfl, -⟩ := hs.intsShape (A := []) (C := [])
  have HP5 := Lib.hid hs
  have HL5 := Lib.hid (HL4.out.kept hb)
  clear hs HL4
  have HB5 := Lib.hid (HB4.out.trans (hb.mono hg4))
  have hg5 : g ≤ w5.heap.size := by have := HB5.out.size; rw [← HG.out] at this; exact this
  clear hb
  go_wp2_with fail
  refine (HSAME0.out _ HB5.out).mono ?_
  rintro e w6 ⟨rfl, hb⟩
  have HP6 := Lib.hid (HP5.out.kept hb)
  have HL6 := Lib.hid (HL5.out.kept hb)
  clear HP5 HL5
  have HB6 := Lib.hid (HB5.out.trans (hb.mono hg5))
  have hg6 : g ≤ w6.heap.size := by have := HB6.out.size; rw [← HG.out] at this; exact this
  clear hb
  go_wp2_with fail
  refine (ints_any _ _ _ _ _ _ _ _ R R true _ (HP6.out.intSl (A := []) (C := [])) (HL6.out.intSl (A := []) (C := [])) rfl rfl (by omega) (decide_eq_true rfl).symm).mono ?_
  rintro e w7 ⟨rfl, hd⟩
  have hb := below_of_drew hd
  clear HP6 HL6 hd
  have HB7 := Lib.hid (HB6.out.trans (hb.mono hg6))
  have hg7 : g ≤ w7.heap.size := by have := HB7.out.size; rw [← HG.out] at this; exact this
  clear hb
  go_wp2_with fail
  refine (ringGap_ok _ _ _ _ ws h _ (HA.out.below HB7.out) rfl hg7 HOK.out).mono ?_
  rintro e w8 ⟨rfl, hb⟩
  rw [← HRR.out]
  have HB8 := Lib.hid (HB7.out.trans (hb.mono hg7))
  have hg8 : g ≤ w8.heap.size := by have := HB8.out.size; rw [← HG.out] at this; exact this
  clear hb
  obtain ⟨gp, hgp⟩ : ∃ gp, gp = gapOf R := ⟨_, rfl⟩
  rw [← hgp]
  have hgg : ((gp : Int) == (gp : Int)) = true := by simp
  clear hgp
  go_wp2_with fail
  refine (HSAME0.out _ HB8.out).mono ?_
  rintro e w9 ⟨rfl, hb⟩
  have HB9 := Lib.hid (HB8.out.trans (hb.mono hg8))
  have hg9 : g ≤ w9.heap.size := by have := HB9.out.size; rw [← HG.out] at this; exact this
  clear hb
  go_wp2
  go_ret
  exact ⟨rfl, by have := HB9.out; rw [HG.out] at this; exact this⟩
theorem ringSays_walk (ao : Option Addr) (ac : Nat) (ws : List Int) (h : Int) (w : World) (hdoor : Door w) (hA : IntSl w.heap.size w ao ws) (hac : ws.length ≤ ac) (hmax : ac ≤ maxLen) (hgood : ∀ x ∈ ws, -9223372036854775808 ≤ x ∧ x ≤ 9223372036854775807) (hhb : -9223372036854775808 ≤ h ∧ h ≤ 9223372036854775807) :
    Calls Tryd.prog 6 #[.slice ao ws.length ac, .int .i64 h] w fun e w' => e = .returned (.bool true) ∧ Below w.heap.size w w' := by
  unfold maxLen at hmax
  by_cases h0 : ws.length = 0
  · exact ringSays_wrong ao ac _ ws h 5 w rfl (by decide) (saysC 5 (by omega) w hdoor) hA (by omega) (.inl ⟨h0, rfl⟩)
  by_cases h8 : 8 < ws.length
  · exact ringSays_wrong ao ac _ ws h 4 w rfl (by decide) (saysC 4 (by omega) w hdoor) hA (by omega) (.inr (.inl ⟨h8, rfl⟩))
  by_cases hr : ∀ x ∈ ws, 0 ≤ x ∧ x ≤ 20
  · by_cases hh : 1 ≤ h ∧ h ≤ 20
    · exact ringSays_ok ao ac _ ws h w rfl (says0 w hdoor) hA (by omega) (by omega) hr hh.1 hh.2
    · exact ringSays_hold ao ac _ ws h w rfl (says0 w hdoor) (saysC 1 (by omega) w hdoor) hA (by omega) (by omega) hr hh
  · exact ringSays_wrong ao ac _ ws h 1 w rfl (by decide) (saysC 1 (by omega) w hdoor) hA (by omega) (.inr (.inr ⟨by omega, by omega, hr, rfl⟩))
end Go.Proofs.YtommedhaaojgiaaDoor
