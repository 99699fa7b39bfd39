/- LearnAnswer returns true: who was heard is answered straight. -/
import Derived.Test.YtommedhaaojgiaaLearnLaw
import Derived.Test.YtommedhaaojgiaaLearnFact
import Derived.Test.YtommedhaaojgiaaIn3
import Derived.Test.YtommedhaaojgiaaHas1
namespace Go.Proofs.Ytommedhaaojgiaa
open Go.RowKit
set_option linter.unusedVariables false

set_option maxHeartbeats 2000000 in
set_option maxRecDepth 100000 in
theorem learnAnswer_walk (ao : Option Addr) (ac : Nat) (rs : List Stp) (a t p q : Int) (w : World) (hA : RowSl w.heap.size w ao 1 (rs.map stpC)) (hac : rs.length ≤ ac) (hmax : ac ≤ maxLen) (hr : StpsOk w.heap.size w rs)
    (_ : -9223372036854775808 ≤ a ∧ a ≤ 9223372036854775807) (_ : -9223372036854775808 ≤ t ∧ t ≤ 9223372036854775807) (_ : -9223372036854775808 ≤ p ∧ p ≤ 9223372036854775807) (_ : -9223372036854775808 ≤ q ∧ q ≤ 9223372036854775807) :
    Calls Try.prog 3 #[.slice ao rs.length ac, .int .i64 a, .int .i64 t, .int .i64 p, .int .i64 q] w fun e w' => e = .returned (.bool true) ∧ Below w.heap.size w w' := by
  unfold maxLen at hmax
  have HA := Lib.hid hA; clear hA
  have HR := Lib.hid hr; clear hr
  go_enter Try.func3, Try.ntmps3
  go_wp2_with fail
  refine (learnFact_any _).mono ?_
  rintro e w1 ⟨rfl, hb⟩
  have HB1 := Lib.hid hb; clear hb
  have HA1 : Hid (RowSl w1.heap.size w1 ao 1 (rs.map stpC)) := by
    intro j cs hj
    obtain ⟨b, off, h1, h2, h3⟩ := (HA.out.below HB1.out) j cs hj
    exact ⟨b, off, h1, Nat.lt_of_lt_of_le h2 HB1.out.size, h3⟩
  have HR1 : Hid (StpsOk w1.heap.size w1 rs) := fun r hr => ⟨((HR.out.below HB1.out) r hr).1.mono HB1.out.size, ((HR.out.below HB1.out) r hr).2⟩
  go_wp2_with fail
  refine (heard_any ao ac rs _ HA1.out hac (by omega) HR1.out).mono ?_
  rintro e w2 ⟨g, v, T, rfl, hg, hs, hb⟩
  have HB2 := Lib.hid (HB1.out.trans (hb.mono HB1.out.size)); clear hb
  have HS2 : Hid (Sep w.heap.size w2 (swE g v T ++ [])) := Lib.hid (by have h5 := hs.mono HB1.out.size; rwa [List.append_nil])
  have HG := Lib.hid hg; clear hg hs
  by_cases hv : Valid a t p
  · have HV := Lib.hid hv; clear hv
    obtain ⟨T1, hT1⟩ : ∃ T1, heardT T a p = T1 := ⟨_, rfl⟩
    obtain ⟨l1, hl1⟩ : ∃ l1, outs T1 t p = l1 := ⟨_, rfl⟩
    have hg1 := HG.out.heard HV.out
    have hlk1 := (mem_look hg1.nd (heardT_mem T a p)).1
    have hno := outs_not T1 t p
    rw [hT1] at hg1 hlk1
    rw [hl1] at hno
    have hnod : false = decide (p ∈ l1) := by simp [hno]
    have hll : l1.length ≤ 4 := by
      rw [← hl1]
      unfold outs
      split
      · exact Nat.le_trans (List.length_filter_le _ _) (by simp)
      · split <;> simp
    have HT1 := Lib.hid hT1; clear hT1
    have HL1 := Lib.hid hl1; clear hl1
    have HG1 := Lib.hid hg1; clear hg1
    have HLK := Lib.hid hlk1; clear hlk1
    have HNO := Lib.hid hnod; clear hnod hno
    go_wp2_with fail
    refine (frame_res _ g v T T1 l1 [] a t p _ HV.out HG.out.len HT1.out HL1.out HS2.out HB2.out.size).mono ?_
    rintro e w3 ⟨lo, lc, v1, rfl, hlc, hs, hb⟩
    have HS3 := Lib.hid hs; clear hs
    have HB3 := Lib.hid (HB2.out.trans hb); clear hb
    have HI3 := Lib.hid (HS3.out.intSl (A := [_, _]) (C := []))
    go_wp2_with fail
    refine (has1_any lo lc _ _ l1 p false _ HI3.out rfl (by omega) HNO.out).mono ?_
    rintro e w' ⟨rfl, rfl⟩
    go_wp2_with fail
    refine (port_any _ g v1 T1 _ a _ (by have := HG1.out.len; omega) HS3.out).mono ?_
    rintro e w4 ⟨rfl, hb⟩
    rw [HLK.out]
    have HS4 := Lib.hid (HS3.out.kept hb)
    have HB4 := Lib.hid (HB3.out.trans (hb.mono HB3.out.size)); clear hb
    have hpp : (p != p) = false := by simp
    by_cases hv2 : Valid t a q
    · have HV2 := Lib.hid hv2; clear hv2
      obtain ⟨T2, hT2⟩ : ∃ T2, heardT T1 t q = T2 := ⟨_, rfl⟩
      obtain ⟨l2, hl2⟩ : ∃ l2, outs T2 a q = l2 := ⟨_, rfl⟩
      have hg2 := HG1.out.heard HV2.out
      rw [hT2] at hg2
      have HG2 := Lib.hid hg2; clear hg2
      have hself : look T2 t = q := by
        rw [← hT2]
        exact (mem_look (by rw [hT2]; exact HG2.out.nd) (heardT_mem T1 t q)).1
      have HSELF := Lib.hid hself; clear hself
      by_cases hat : a = t
      · subst hat
        have hl2e : l2 = [] := by
          rw [← hl2, ← hT2, outs_known (p := q) (by rw [hT2]; exact HG2.out.nd) (heardT_mem T1 a q), if_pos rfl]
        have haa : (a == a) = true := by simp
        subst hl2e
        have HT2 := Lib.hid hT2; clear hT2
        have HL2 := Lib.hid hl2; clear hl2
        have hqq : (q == q) = true := by simp
        go_wp2_with fail
        refine (frame_res _ g v1 T1 T2 [] _ a a q _ HV2.out HG1.out.len HT2.out HL2.out HS4.out HB4.out.size).mono ?_
        rintro e w5 ⟨lo2, lc2, v2, rfl, hlc2, hs, hb⟩
        have HS5 := Lib.hid hs; clear hs
        have HB5 := Lib.hid (HB4.out.trans hb); clear hb
        go_wp2_with fail
        refine (port_any _ g v2 T2 _ a _ (by have := HG2.out.len; omega) HS5.out).mono ?_
        rintro e w6 ⟨rfl, hb⟩
        rw [HSELF.out]
        have HB6 := Lib.hid (HB5.out.trans (hb.mono HB5.out.size)); clear hb
        go_wp2
        go_ret
        exact ⟨ret_bool (by simp), HB6.out⟩
      · have hat2 : (a == t) = false := by simp [hat]
        have hmem : (a, p) ∈ T2 := by
          rw [← hT2, ← HT1.out]
          exact heard_two HG.out HV.out hat
        have hl2e : l2 = if p = q then [] else [p] := by rw [← hl2, outs_known HG2.out.nd hmem]
        have HAT := Lib.hid hat; clear hat
        have HT2 := Lib.hid hT2; clear hT2
        clear hmem
        by_cases hpq : p = q
        · have hpq2 : (p == q) = true := by simp [hpq]
          rw [if_pos hpq] at hl2e
          subst hl2e
          have HL2 := Lib.hid hl2; clear hl2
          have HPQ := Lib.hid hpq; clear hpq
          go_wp2_with fail
          refine (frame_res _ g v1 T1 T2 [] _ t a q _ HV2.out HG1.out.len HT2.out HL2.out HS4.out HB4.out.size).mono ?_
          rintro e w5 ⟨lo2, lc2, v2, rfl, hlc2, hs, hb⟩
          have HB5 := Lib.hid (HB4.out.trans hb); clear hb
          go_wp2
          go_ret
          exact ⟨rfl, HB5.out⟩
        · have hpq2 : (p == q) = false := by simp [hpq]
          rw [if_neg hpq] at hl2e
          subst hl2e
          have HL2 := Lib.hid hl2; clear hl2
          have HPQ := Lib.hid hpq; clear hpq
          go_wp2_with fail
          refine (frame_res _ g v1 T1 T2 [p] _ t a q _ HV2.out HG1.out.len HT2.out HL2.out HS4.out HB4.out.size).mono ?_
          rintro e w5 ⟨lo2, lc2, v2, rfl, hlc2, hs, hb⟩
          have HB5 := Lib.hid (HB4.out.trans hb); clear hb
          have HX := Lib.hid (fun o => (hs.intSl (A := [_, _]) (C := [_])).past (Nat.le_refl _) o)
          clear hs
          go_wp2_with fail
          refine (ints_any _ _ _ _ _ _ _ _ [p] [p] true _ (HX.out _) (intSl_new _ _ _ _ rfl) rfl rfl (by simp) (by simp)).mono ?_
          rintro e w6 ⟨rfl, hd⟩
          have HB6 := Lib.hid (below_past (below_of_drew hd)); clear hd
          go_wp2
          go_ret
          exact ⟨rfl, HB5.out.trans (HB6.out.mono HB5.out.size)⟩
    · have hq : ¬ (0 ≤ q ∧ q ≤ 3) := fun h => hv2 ⟨HV.out.2.1, HV.out.1, h⟩
      have HV2 := Lib.hid hv2; clear hv2
      have HQ := Lib.hid hq; clear hq
      go_wp2_with fail
      refine (frame_no _ t a q _ HV2.out).mono ?_
      rintro e w' ⟨rfl, rfl⟩
      go_wp2_with fail
      refine (in3_no _ _ _ _ HQ.out).mono ?_
      rintro e w' ⟨rfl, rfl⟩
      go_wp2
      go_ret
      exact ⟨rfl, HB4.out⟩
  · have HV := Lib.hid hv; clear hv
    go_wp2_with fail
    refine (frame_no _ a t p _ HV.out).mono ?_
    rintro e w' ⟨rfl, rfl⟩
    go_wp2
    go_ret
    exact ⟨rfl, HB2.out⟩
end Go.Proofs.Ytommedhaaojgiaa
