/- LearnDown returns true: what was learned of a port that goes down is forgotten. -/
import Derived.Test.YtommedhaaojgiaaLearnDownLaw
import Derived.Test.YtommedhaaojgiaaLearnFact
import Derived.Test.YtommedhaaojgiaaLearnFloodWalk
import Derived.Test.YtommedhaaojgiaaIn3
namespace Go.Proofs.Ytommedhaaojgiaa
open Go.RowKit
set_option linter.unusedVariables false

set_option maxHeartbeats 2000000 in
set_option maxRecDepth 100000 in
theorem learnDown_walk (ao : Option Addr) (ac : Nat) (rs : List Stp) (p d o : Int) (w : World) (hA : RowSl w.heap.size w ao 1 (rs.map stpC)) (hac : rs.length ≤ ac) (hmax : ac ≤ maxLen) (hr : StpsOk w.heap.size w rs)
    (_ : -9223372036854775808 ≤ p ∧ p ≤ 9223372036854775807) (_ : -9223372036854775808 ≤ d ∧ d ≤ 9223372036854775807) (_ : -9223372036854775808 ≤ o ∧ o ≤ 9223372036854775807) :
    Calls Try.prog 5 #[.slice ao rs.length ac, .int .i64 p, .int .i64 d, .int .i64 o] w fun e w' => e = .returned (.bool true) ∧ Below w.heap.size w w' := by
  unfold maxLen at hmax
  have HA := Lib.hid hA; clear hA
  have HR := Lib.hid hr; clear hr
  go_enter Try.func5, Try.ntmps5
  go_wp2_with fail
  refine (learnFact_any _).mono ?_
  rintro e w1 ⟨rfl, hb⟩
  have HB1 := Lib.hid hb; clear hb
  have HA1 : Hid (RowSl w1.heap.size w1 ao 1 (rs.map stpC)) := by
    intro j cs hj
    obtain ⟨b, off, h1, h2, h3⟩ := (HA.out.below HB1.out) j cs hj
    exact ⟨b, off, h1, Nat.lt_of_lt_of_le h2 HB1.out.size, h3⟩
  have HR1 : Hid (StpsOk w1.heap.size w1 rs) := fun r hr => ⟨((HR.out.below HB1.out) r hr).1.mono HB1.out.size, ((HR.out.below HB1.out) r hr).2⟩
  go_wp2_with fail
  refine (heard_any ao ac rs _ HA1.out hac (by omega) HR1.out).mono ?_
  rintro e w2 ⟨g, v, T, rfl, hg, hs, hb⟩
  have HB2 := Lib.hid (HB1.out.trans (hb.mono HB1.out.size)); clear hb
  have HS2 : Hid (Sep w.heap.size w2 (swE g v T ++ [])) := Lib.hid (by have h5 := hs.mono HB1.out.size; rwa [List.append_nil])
  have HG := Lib.hid hg; clear hg hs
  go_wp2_with fail
  refine (port_any _ g v T _ d _ (by have := HG.out.len; omega) HS2.out).mono ?_
  rintro e w2' ⟨rfl, hb⟩
  have HSP := Lib.hid (HS2.out.kept hb)
  have HBP := Lib.hid (HB2.out.trans (hb.mono HB2.out.size)); clear hb
  obtain ⟨was, hwas⟩ : ∃ was, was = look T d := ⟨_, rfl⟩
  rw [← hwas]
  have HWAS := Lib.hid hwas; clear hwas
  have hTl : T.length ≤ 9 := by have := HG.out.len; omega
  go_wp2_with fail
  go_loopw [12, 13] (fun m x wr => ∃ (k c : Nat), k ≤ 12 ∧ c ≤ k ∧ x = .int .i64 k ∧ m = .int .i64 c ∧ Hid (0 ≤ p → c = manyTo T p k) ∧ Below w2'.heap.size w2' wr) (fun _ x _ => 12 - (intOf x).toNat)
  case atStart => exact ⟨0, 0, by omega, by omega, rfl, rfl, fun _ => rfl, Below.refl _ _⟩
  case round =>
    obtain ⟨k, c, hk, hck, rfl, rfl, hc, hb⟩ := hrel
    have HB := Lib.hid hb; clear hb
    have HSW := Lib.hid (HSP.out.kept HB.out)
    by_cases hlt : k < 12
    · by_cases hkp : look T (k : Int) = p
      · by_cases hp0 : 0 ≤ p
        · have hb1 : (p == p) = true := by simp
          have hc2 : c + 1 = manyTo T p (k + 1) := by unfold manyTo; rw [← hc.out hp0, if_pos hkp]
          have HC2 := Lib.hid hc2; clear hc2
          have HKP := Lib.hid hkp; clear hkp
          go_wp2_with fail
          refine (port_any _ g v T _ k _ hTl HSW.out).mono ?_
          rintro e w3 ⟨rfl, hb⟩
          rw [HKP.out]
          have HB3 := Lib.hid (HB.out.trans (hb.mono HB.out.size)); clear hb
          go_wp2
          go_roundw
          case rel => exact ⟨k + 1, c + 1, by omega, by omega, by go_num, by go_num, fun _ => HC2.out, HB3.out⟩
          case measure => simp [intOf]; omega
        · have hb1 : (p == p) = true := by simp
          have hb2 : decide ((0 : Int) ≤ p) = false := decide_eq_false hp0
          have HKP := Lib.hid hkp; clear hkp
          go_wp2_with fail
          refine (port_any _ g v T _ k _ hTl HSW.out).mono ?_
          rintro e w3 ⟨rfl, hb⟩
          rw [HKP.out]
          have HB3 := Lib.hid (HB.out.trans (hb.mono HB.out.size)); clear hb
          go_wp2
          go_roundw
          case rel => exact ⟨k + 1, c, by omega, by omega, by go_num, rfl, fun h => absurd h (by omega), HB3.out⟩
          case measure => simp [intOf]; omega
      · have hb1 : (look T (k : Int) == p) = false := by simp [hkp]
        have hc2 : 0 ≤ p → c = manyTo T p (k + 1) := by intro hp0; unfold manyTo; rw [← hc.out hp0, if_neg hkp]; rfl
        have HC2 := Lib.hid hc2; clear hc2
        have HKP := Lib.hid hkp; clear hkp
        go_wp2_with fail
        refine (port_any _ g v T _ k _ hTl HSW.out).mono ?_
        rintro e w3 ⟨rfl, hb⟩
        have HB3 := Lib.hid (HB.out.trans (hb.mono HB.out.size)); clear hb
        go_wp2
        go_roundw
        case rel => exact ⟨k + 1, c, by omega, by omega, by go_num, rfl, HC2.out, HB3.out⟩
        case measure => simp [intOf]; omega
    · have hk12 : k = 12 := by omega
      subst hk12
      have hBw : w.heap.size ≤ wr.heap.size := Nat.le_trans HBP.out.size HB.out.size
      have HBW := Lib.hid (HBP.out.trans (HB.out.mono HBP.out.size))
      by_cases hv : 0 ≤ p ∧ p ≤ 3
      · have hle := manyTo_le hv.1 T 12
        rw [← hc.out hv.1] at hle
        obtain ⟨T', hT'⟩ : ∃ T', T' = downT T p := ⟨_, rfl⟩
        have hg' := HG.out.down p
        rw [← hT'] at hle hg'
        have hT8 := HG.out.len
        have HG' := Lib.hid hg'; clear hg'
        have HT' := Lib.hid hT'; clear hT'
        have HV := Lib.hid hv; clear hv
        have hn1 : decide ((T.length : Int) - (T'.length : Int) < (c : Int)) = false := decide_eq_false (by omega)
        have hn2 : decide ((8 : Int) < (T.length : Int) - (T'.length : Int)) = false := decide_eq_false (by omega)
        go_wp2_with fail
        refine (down_ok _ g v T [] p _ HV.out HG.out.len HSW.out hBw).mono ?_
        rintro e w3 ⟨rfl, ⟨v', hs⟩, hb⟩
        rw [← HT'.out] at hs ⊢
        have HS3 := Lib.hid hs; clear hs
        have HB3 := Lib.hid (HBW.out.trans hb); clear hb
        by_cases hwp : was = p
        · have hb1 : (was == p) = true := by simp [hwp]
          have hb2 : (was != p) = false := by simp [hwp]
          have hgone : ∀ x ∈ T', x.1 ≠ d := by rw [HT'.out]; exact down_gone HG.out (by rw [← HWAS.out]; exact hwp)
          have hl : look T' d = -1 := by unfold look; rw [tfind_none.2 hgone]
          have HL := Lib.hid hl; clear hl
          have HGN := Lib.hid hgone; clear hgone
          have HWP := Lib.hid hwp; clear hwp
          go_wp2_with fail
          refine (port_any _ g v' T' _ d _ (by have := HG'.out.len; omega) HS3.out).mono ?_
          rintro e w4 ⟨rfl, hb⟩
          rw [HL.out]
          have HS4 := Lib.hid (HS3.out.kept hb)
          have HB4 := Lib.hid (HB3.out.trans (hb.mono HB3.out.size)); clear hb
          by_cases hv2 : Valid o d p
          · obtain ⟨T2, hT2⟩ : ∃ T2, heardT T' o p = T2 := ⟨_, rfl⟩
            obtain ⟨l2, hl2⟩ : ∃ l2, outs T2 d p = l2 := ⟨_, rfl⟩
            have hg2 := HG'.out.heard hv2
            rw [hT2] at hg2
            have HG2 := Lib.hid hg2; clear hg2
            have HV2 := Lib.hid hv2; clear hv2
            by_cases hod : o = d
            · have hb3 : (o == d) = true := by simp [hod]
              have HOD := Lib.hid hod; clear hod
              have HT2 := Lib.hid hT2; clear hT2
              have HL2 := Lib.hid hl2; clear hl2
              go_wp2_with fail
              refine (frame_res _ g v' T' T2 l2 [] o d p _ HV2.out HG'.out.len HT2.out HL2.out HS4.out HB4.out.size).mono ?_
              rintro e w5 ⟨lo, lc, v5, rfl, hlc, hs, hb⟩
              have HB5 := Lib.hid (HB4.out.trans hb); clear hb hs
              go_wp2
              go_ret
              exact ⟨rfl, HB5.out⟩
            · have hb3 : (o == d) = false := by simp [hod]
              have hno : tfind T2 d = none := tfind_none.2 fun x hx => by
                rcases heardT_from (by rw [hT2]; exact hx) with h | h
                · rw [h]; exact hod
                · exact HGN.out x h
              have h3 := outs_none hno HV.out
              rw [hl2] at h3
              have hlo : look T2 o = p := (mem_look HG2.out.nd (by rw [← hT2]; exact heardT_mem T' o p)).1
              have HLO := Lib.hid hlo; clear hlo
              have HNO := Lib.hid hno; clear hno
              have H3 := Lib.hid h3; clear h3
              have hq3 : ((l2.length : Int) == 3) = true := by simp [H3.out]
              have HOD := Lib.hid hod; clear hod
              have HT2 := Lib.hid hT2; clear hT2
              have HL2 := Lib.hid hl2; clear hl2
              go_wp2_with fail
              refine (frame_res _ g v' T' T2 l2 [] o d p _ HV2.out HG'.out.len HT2.out HL2.out HS4.out HB4.out.size).mono ?_
              rintro e w5 ⟨lo, lc, v5, rfl, hlc, hs, hb⟩
              have HS5 := Lib.hid hs; clear hs
              have HB5 := Lib.hid (HB4.out.trans hb); clear hb
              go_wp2_with fail
              refine (port_any _ g v5 T2 _ o _ (by have := HG2.out.len; omega) HS5.out).mono ?_
              rintro e w6 ⟨rfl, hb⟩
              rw [HLO.out]
              have HB6 := Lib.hid (HB5.out.trans (hb.mono HB5.out.size)); clear hb
              go_wp2
              go_ret
              exact ⟨ret_bool (by simp), HB6.out⟩
          · have hzz : True := trivial
            have HV2 := Lib.hid hv2; clear hv2
            go_wp2_with fail
            refine (frame_no _ o d p _ HV2.out).mono ?_
            rintro e w' ⟨rfl, rfl⟩
            by_cases ho : 0 ≤ o ∧ o ≤ 65535
            · have hd : ¬ (0 ≤ d ∧ d ≤ 65535) := fun h => HV2.out ⟨ho, h, HV.out⟩
              have HD := Lib.hid hd; clear hd
              go_wp2_with fail
              refine (in3_yes _ _ _ _ ho.1 ho.2).mono ?_
              rintro e w' ⟨rfl, rfl⟩
              go_wp2_with fail
              refine (in3_no _ _ _ _ HD.out).mono ?_
              rintro e w' ⟨rfl, rfl⟩
              go_wp2
              go_ret
              exact ⟨rfl, HB4.out⟩
            · have HO := Lib.hid ho; clear ho
              go_wp2_with fail
              refine (in3_no _ _ _ _ HO.out).mono ?_
              rintro e w' ⟨rfl, rfl⟩
              go_wp2
              go_ret
              exact ⟨rfl, HB4.out⟩
        · have hb1 : (was == p) = false := by simp [hwp]
          have hb2 : (was != p) = true := by simp [hwp]
          have hb4 : (was != was) = false := by simp
          have hl : look T' d = was := by rw [HT'.out, down_stays HG.out (by rw [← HWAS.out]; exact hwp)]; exact HWAS.out.symm
          have HL := Lib.hid hl; clear hl
          have HWP := Lib.hid hwp; clear hwp
          go_wp2_with fail
          refine (port_any _ g v' T' _ d _ (by have := HG'.out.len; omega) HS3.out).mono ?_
          rintro e w4 ⟨rfl, hb⟩
          rw [HL.out]
          have HS4 := Lib.hid (HS3.out.kept hb)
          have HB4 := Lib.hid (HB3.out.trans (hb.mono HB3.out.size)); clear hb
          by_cases hv2 : Valid o d p
          · obtain ⟨T2, hT2⟩ : ∃ T2, heardT T' o p = T2 := ⟨_, rfl⟩
            obtain ⟨l2, hl2⟩ : ∃ l2, outs T2 d p = l2 := ⟨_, rfl⟩
            have HV2 := Lib.hid hv2; clear hv2
            have HT2 := Lib.hid hT2; clear hT2
            have HL2 := Lib.hid hl2; clear hl2
            go_wp2_with fail
            refine (frame_res _ g v' T' T2 l2 [] o d p _ HV2.out HG'.out.len HT2.out HL2.out HS4.out HB4.out.size).mono ?_
            rintro e w5 ⟨lo, lc, v5, rfl, hlc, hs, hb⟩
            have HB5 := Lib.hid (HB4.out.trans hb); clear hb hs
            go_wp2
            go_ret
            exact ⟨rfl, HB5.out⟩
          · have hzz : True := trivial
            have HV2 := Lib.hid hv2; clear hv2
            go_wp2_with fail
            refine (frame_no _ o d p _ HV2.out).mono ?_
            rintro e w' ⟨rfl, rfl⟩
            by_cases ho : 0 ≤ o ∧ o ≤ 65535
            · have hd : ¬ (0 ≤ d ∧ d ≤ 65535) := fun h => HV2.out ⟨ho, h, HV.out⟩
              have HD := Lib.hid hd; clear hd
              go_wp2_with fail
              refine (in3_yes _ _ _ _ ho.1 ho.2).mono ?_
              rintro e w' ⟨rfl, rfl⟩
              go_wp2_with fail
              refine (in3_no _ _ _ _ HD.out).mono ?_
              rintro e w' ⟨rfl, rfl⟩
              go_wp2
              go_ret
              exact ⟨rfl, HB4.out⟩
            · have HO := Lib.hid ho; clear ho
              go_wp2_with fail
              refine (in3_no _ _ _ _ HO.out).mono ?_
              rintro e w' ⟨rfl, rfl⟩
              go_wp2
              go_ret
              exact ⟨rfl, HB4.out⟩
      · have HV := Lib.hid hv; clear hv
        have hww : (was == was) = true := by simp
        go_wp2_with fail
        refine (down_no _ p _ HV.out).mono ?_
        rintro e w' ⟨rfl, rfl⟩
        go_wp2_with fail
        refine (in3_no _ _ _ _ HV.out).mono ?_
        rintro e w' ⟨rfl, rfl⟩
        go_wp2_with fail
        refine (port_any _ g v T _ d _ hTl HSW.out).mono ?_
        rintro e w3 ⟨rfl, hb⟩
        rw [← HWAS.out]
        have HB3 := Lib.hid (HBW.out.trans (hb.mono hBw)); clear hb
        go_wp2
        go_ret
        exact ⟨ret_bool (by simp), HB3.out⟩
end Go.Proofs.Ytommedhaaojgiaa
