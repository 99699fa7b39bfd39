/- LearnFlood returns true: who is not known is sought by all ports but the one. -/
import Derived.Test.YtommedhaaojgiaaLearnLaw
import Derived.Test.YtommedhaaojgiaaLearnFact
import Derived.Test.YtommedhaaojgiaaIn3
import Derived.Test.YtommedhaaojgiaaHas1
namespace Go.Proofs.Ytommedhaaojgiaa
open Go.RowKit
set_option linter.unusedVariables false

theorem heardT_from {T : Tab} {a p : Int} {x : Int × Int} (h : x ∈ heardT T a p) : x = (a, p) ∨ x ∈ T := by
  have h2 : x ∈ gone T a ++ [(a, p)] := by
    unfold heardT at h
    split at h
    · exact List.mem_of_mem_drop h
    · exact h
  rcases List.mem_append.1 h2 with h3 | h3
  · exact .inr ((gone_sub T a).mem h3)
  · left; simpa using h3
theorem outs_none {T : Tab} {t p : Int} (h : tfind T t = none) (hp : 0 ≤ p ∧ p ≤ 3) : (outs T t p).length = 3 := by
  unfold outs
  rw [h]
  rcases (show p = 0 ∨ p = 1 ∨ p = 2 ∨ p = 3 by omega) with rfl | rfl | rfl | rfl <;> rfl

set_option maxHeartbeats 2000000 in
set_option maxRecDepth 100000 in
theorem learnFlood_walk (ao : Option Addr) (ac : Nat) (rs : List Stp) (a t p : Int) (w : World) (hA : RowSl w.heap.size w ao 1 (rs.map stpC)) (hac : rs.length ≤ ac) (hmax : ac ≤ maxLen) (hr : StpsOk w.heap.size w rs)
    (_ : -9223372036854775808 ≤ a ∧ a ≤ 9223372036854775807) (_ : -9223372036854775808 ≤ t ∧ t ≤ 9223372036854775807) (_ : -9223372036854775808 ≤ p ∧ p ≤ 9223372036854775807) :
    Calls Try.prog 4 #[.slice ao rs.length ac, .int .i64 a, .int .i64 t, .int .i64 p] w fun e w' => e = .returned (.bool true) ∧ Below w.heap.size w w' := by
  unfold maxLen at hmax
  have HA := Lib.hid hA; clear hA
  have HR := Lib.hid hr; clear hr
  go_enter Try.func4, Try.ntmps4
  go_wp2_with fail
  refine (learnFact_any _).mono ?_
  rintro e w1 ⟨rfl, hb⟩
  have HB1 := Lib.hid hb; clear hb
  have HA1 : Hid (RowSl w1.heap.size w1 ao 1 (rs.map stpC)) := by
    intro j cs hj
    obtain ⟨b, off, h1, h2, h3⟩ := (HA.out.below HB1.out) j cs hj
    exact ⟨b, off, h1, Nat.lt_of_lt_of_le h2 HB1.out.size, h3⟩
  have HR1 : Hid (StpsOk w1.heap.size w1 rs) := fun r hr => ⟨((HR.out.below HB1.out) r hr).1.mono HB1.out.size, ((HR.out.below HB1.out) r hr).2⟩
  go_wp2_with fail
  refine (heard_any ao ac rs _ HA1.out hac (by omega) HR1.out).mono ?_
  rintro e w2 ⟨g, v, T, rfl, hg, hs, hb⟩
  have HB2 := Lib.hid (HB1.out.trans (hb.mono HB1.out.size)); clear hb
  have HS2 : Hid (Sep w.heap.size w2 (swE g v T ++ [])) := Lib.hid (by have h5 := hs.mono HB1.out.size; rwa [List.append_nil])
  have HG := Lib.hid hg; clear hg hs
  go_wp2_with fail
  refine (port_any _ g v T _ t _ (by have := HG.out.len; omega) HS2.out).mono ?_
  rintro e w2' ⟨rfl, hb⟩
  have HSP := Lib.hid (HS2.out.kept hb)
  have HBP := Lib.hid (HB2.out.trans (hb.mono HB2.out.size)); clear hb
  obtain ⟨was, hwas⟩ : ∃ was, was = look T t := ⟨_, rfl⟩
  rw [← hwas]
  have HWAS := Lib.hid hwas; clear hwas
  by_cases hv : Valid a t p
  · have HV := Lib.hid hv; clear hv
    obtain ⟨T1, hT1⟩ : ∃ T1, heardT T a p = T1 := ⟨_, rfl⟩
    have hg1 := HG.out.heard HV.out
    rw [hT1] at hg1
    have HG1 := Lib.hid hg1; clear hg1
    by_cases hat : a = t
    · subst hat
      have hl1 : outs T1 a p = [] := by rw [outs_known (p := p) HG1.out.nd (by rw [← hT1]; exact heardT_mem T a p), if_pos rfl]
      have haa : (a == a) = true := by simp
      have HT1 := Lib.hid hT1; clear hT1
      have HL1 := Lib.hid hl1; clear hl1
      go_wp2_with fail
      refine (frame_res _ g v T T1 [] [] a a p _ HV.out HG.out.len HT1.out HL1.out HSP.out HBP.out.size).mono ?_
      rintro e w3 ⟨lo, lc, v1, rfl, hlc, hs, hb⟩
      have HB3 := Lib.hid (HBP.out.trans hb); clear hb hs
      go_wp2
      go_ret
      exact ⟨rfl, HB3.out⟩
    · have hat2 : (a == t) = false := by simp [hat]
      have HAT := Lib.hid hat; clear hat
      cases hf : tfind T1 t with
      | none =>
        obtain ⟨l1, hl1⟩ : ∃ l1, outs T1 t p = l1 := ⟨_, rfl⟩
        have h3 := outs_none hf HV.out.2.2
        have hno := outs_not T1 t p
        have hlk : look T1 t = -1 := by unfold look; rw [hf]
        rw [hl1] at h3 hno
        have hnod : false = decide (p ∈ l1) := by simp [hno]
        have HT1 := Lib.hid hT1; clear hT1
        have HL1 := Lib.hid hl1; clear hl1
        have HF := Lib.hid hf; clear hf
        have HNO := Lib.hid hnod; clear hnod hno
        have HLK := Lib.hid hlk; clear hlk
        have H3 := Lib.hid h3; clear h3
        have hq3 : ((l1.length : Int) == 3) = true := by simp [H3.out]
        by_cases hw1 : was = -1
        · have hb1 : (was == -1) = true := by simp [hw1]
          have HW1 := Lib.hid hw1; clear hw1
          go_wp2_with fail
          refine (frame_res _ g v T T1 l1 [] a t p _ HV.out HG.out.len HT1.out HL1.out HSP.out HBP.out.size).mono ?_
          rintro e w3 ⟨lo, lc, v1, rfl, hlc, hs, hb⟩
          have HS3 := Lib.hid hs; clear hs
          have HB3 := Lib.hid (HBP.out.trans hb); clear hb
          have HI3 := Lib.hid (HS3.out.intSl (A := [_, _]) (C := []))
          go_wp2_with fail
          refine (has1_any lo lc _ _ l1 p false _ HI3.out rfl (by have := H3.out; omega) HNO.out).mono ?_
          rintro e w' ⟨rfl, rfl⟩
          go_wp2
          go_ret
          exact ⟨ret_bool (by simp), HB3.out⟩
        · have hb1 : (was == -1) = false := by simp [hw1]
          have HW1 := Lib.hid hw1; clear hw1
          go_wp2_with fail
          refine (frame_res _ g v T T1 l1 [] a t p _ HV.out HG.out.len HT1.out HL1.out HSP.out HBP.out.size).mono ?_
          rintro e w3 ⟨lo, lc, v1, rfl, hlc, hs, hb⟩
          have HS3 := Lib.hid hs; clear hs
          have HB3 := Lib.hid (HBP.out.trans hb); clear hb
          go_wp2_with fail
          refine (port_any _ g v1 T1 _ t _ (by have := HG1.out.len; omega) HS3.out).mono ?_
          rintro e w4 ⟨rfl, hb⟩
          rw [HLK.out]
          have HS4 := Lib.hid (HS3.out.kept hb)
          have HB4 := Lib.hid (HB3.out.trans (hb.mono HB3.out.size)); clear hb
          have HI4 := Lib.hid (HS4.out.intSl (A := [_, _]) (C := []))
          go_wp2_with fail
          refine (has1_any lo lc _ _ l1 p false _ HI4.out rfl (by have := H3.out; omega) HNO.out).mono ?_
          rintro e w' ⟨rfl, rfl⟩
          go_wp2
          go_ret
          exact ⟨ret_bool (by simp), HB4.out⟩
      | some k =>
        obtain ⟨r, hk, hlk, _⟩ := tfind_some hf
        have hm1 : (t, r) ∈ T1 := List.mem_iff_getElem?.2 ⟨k, hk⟩
        have hm0 : (t, r) ∈ T := by
          rcases heardT_from (by rw [hT1]; exact hm1) with h | h
          · exact absurd (by have := congrArg Prod.fst h; exact this.symm) HAT.out
          · exact h
        have hwr : was = r := by rw [HWAS.out]; exact (mem_look HG.out.nd hm0).1
        have hr0 : 0 ≤ r := (HG1.out.bd _ hm1).2.1
        have hl1 : outs T1 t p = if r = p then [] else [r] := outs_known HG1.out.nd hm1
        subst hwr
        have hb1 : (was == -1) = false := by simp; omega
        have hww : (was == was) = true := by simp
        have HT1 := Lib.hid hT1; clear hT1
        have HF := Lib.hid hf; clear hf
        have HLK := Lib.hid hlk; clear hlk hk hm1 hm0
        by_cases hwp : was = p
        · have hb2 : (was == p) = true := by simp [hwp]
          rw [if_pos hwp] at hl1
          have HL1 := Lib.hid hl1; clear hl1
          have HWP := Lib.hid hwp; clear hwp
          go_wp2_with fail
          refine (frame_res _ g v T T1 [] [] a t p _ HV.out HG.out.len HT1.out HL1.out HSP.out HBP.out.size).mono ?_
          rintro e w3 ⟨lo, lc, v1, rfl, hlc, hs, hb⟩
          have HS3 := Lib.hid hs; clear hs
          have HB3 := Lib.hid (HBP.out.trans hb); clear hb
          go_wp2_with fail
          refine (port_any _ g v1 T1 _ t _ (by have := HG1.out.len; omega) HS3.out).mono ?_
          rintro e w4 ⟨rfl, hb⟩
          rw [HLK.out]
          have HS4 := Lib.hid (HS3.out.kept hb)
          have HB4 := Lib.hid (HB3.out.trans (hb.mono HB3.out.size)); clear hb
          go_wp2_with fail
          refine (port_any _ g v1 T1 _ t _ (by have := HG1.out.len; omega) HS4.out).mono ?_
          rintro e w5 ⟨rfl, hb⟩
          rw [HLK.out]
          have HB5 := Lib.hid (HB4.out.trans (hb.mono HB4.out.size)); clear hb
          go_wp2
          go_ret
          exact ⟨ret_bool (by simp), HB5.out⟩
        · have hb2 : (was == p) = false := by simp [hwp]
          have hb3 : (was != p) = true := by simp [hwp]
          rw [if_neg hwp] at hl1
          have HL1 := Lib.hid hl1; clear hl1
          have HWP := Lib.hid hwp; clear hwp
          go_wp2_with fail
          refine (frame_res _ g v T T1 [was] [] a t p _ HV.out HG.out.len HT1.out HL1.out HSP.out HBP.out.size).mono ?_
          rintro e w3 ⟨lo, lc, v1, rfl, hlc, hs, hb⟩
          have HS3 := Lib.hid hs; clear hs
          have HB3 := Lib.hid (HBP.out.trans hb); clear hb
          go_wp2_with fail
          refine (port_any _ g v1 T1 _ t _ (by have := HG1.out.len; omega) HS3.out).mono ?_
          rintro e w4 ⟨rfl, hb⟩
          rw [HLK.out]
          have HS4 := Lib.hid (HS3.out.kept hb)
          have HB4 := Lib.hid (HB3.out.trans (hb.mono HB3.out.size)); clear hb
          go_wp2_with fail
          refine (port_any _ g v1 T1 _ t _ (by have := HG1.out.len; omega) HS4.out).mono ?_
          rintro e w5 ⟨rfl, hb⟩
          rw [HLK.out]
          have HS5 := Lib.hid (HS4.out.kept hb)
          have HB5 := Lib.hid (HB4.out.trans (hb.mono HB4.out.size)); clear hb
          have HX := Lib.hid (fun o => (HS5.out.intSl (A := [_, _]) (C := [])).past (Nat.le_refl _) o)
          go_wp2_with fail
          refine (ints_any _ _ _ _ _ _ _ _ [was] [was] true _ (HX.out _) (intSl_new _ _ _ _ rfl) rfl rfl (by simp) (by simp)).mono ?_
          rintro e w6 ⟨rfl, hd⟩
          have HB6 := Lib.hid (below_past (below_of_drew hd)); clear hd
          go_wp2
          go_ret
          exact ⟨ret_bool (by simp), HB5.out.trans (HB6.out.mono HB5.out.size)⟩
  · have HV := Lib.hid hv; clear hv
    go_wp2_with fail
    refine (frame_no _ a t p _ HV.out).mono ?_
    rintro e w' ⟨rfl, rfl⟩
    go_wp2
    go_ret
    exact ⟨rfl, HBP.out⟩
end Go.Proofs.Ytommedhaaojgiaa
