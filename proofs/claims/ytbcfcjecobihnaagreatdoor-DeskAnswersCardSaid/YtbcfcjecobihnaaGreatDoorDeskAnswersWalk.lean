/- DeskAnswers returns true: the desk's session and the plain one say the same. -/
import Derived.Test.YtbcfcjecobihnaaGreatDoorDskRun
import Derived.Test.YtbcfcjecobihnaaGreatDoorRtSes
import Derived.Test.YtbcfcjecobihnaaGreatDoorDoorLaw8
namespace Go.Proofs.YtbcfcjecobihnaaGreatDoor
open Go.RowKit
set_option linter.unusedVariables false
set_option linter.unusedSimpArgs false
set_option maxRecDepth 100000

set_option maxHeartbeats 2000000 in
theorem deskAnswers_walk (a : ByteArray) (w : World) (hdoor8 : Door8 w) (ha : a.size ≤ 9223372036854775807) :
    Calls Tryz.prog 7 #[.string a] w fun e w' => e = .returned (.bool true) ∧ Below w.heap.size w w' := by
  obtain ⟨hd0, hl0⟩ := hdoor8
  have hw := DskW.of hd0 hl0
  obtain ⟨t, rfl⟩ : ∃ t : List UInt8, a = bytesOf t := ⟨a.data.toList, (ba_eta a).symm⟩
  have hat : (bytesOf t).size = t.length := rfl
  rw [hat] at ha
  obtain ⟨G, hG'⟩ : ∃ G, G = w.heap.size := ⟨_, rfl⟩
  have hG : G ≤ w.heap.size := Nat.le_of_eq hG'
  rw [← hG'] at hw ⊢
  have hrun := run_any t w hG hw
  have hses := fun (w1 : World) (h : G ≤ w1.heap.size) => refSes_any G [] t w1 h (Sep.nil _ _) ha
  obtain ⟨tb, htb⟩ : ∃ tb, tb = bytesOf t := ⟨_, rfl⟩
  obtain ⟨ob, hob⟩ : ∃ ob, ob = bytesOf (runD t) := ⟨_, rfl⟩
  rw [← htb, ← hob] at hrun
  rw [← htb, ← hob] at hses
  rw [← htb]
  have HRUN := Lib.hid hrun
  have HSES := Lib.hid hses
  have HG := Lib.hid hG'
  clear hd0 hl0 hG' hat hw hrun hses htb hob ha
  go_enter Tryz.func7, Tryz.ntmps7
  go_wp2_with fail
  refine HRUN.out.mono ?_
  rintro e w1 ⟨rfl, hb1, -⟩
  rw [← HG.out] at hb1
  have hg1 : G ≤ w1.heap.size := Nat.le_trans hG hb1.size
  have HB1 := Lib.hid hb1
  clear hb1 HRUN
  go_wp2_with fail
  refine (HSES.out w1 hg1).mono ?_
  rintro e w2 ⟨rfl, hb2⟩
  have HB2 := Lib.hid (HB1.out.trans hb2)
  clear hb2 HSES
  go_wp2
  go_ret
  exact ⟨rfl, HB2.out⟩
end Go.Proofs.YtbcfcjecobihnaaGreatDoor
