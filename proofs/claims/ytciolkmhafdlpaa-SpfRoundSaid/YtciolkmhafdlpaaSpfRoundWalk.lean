/- SpfRound returns true: by states of links, or by what neighbours tell, it is as far. -/
import Derived.Test.YtciolkmhafdlpaaSpfFact
import Derived.Test.YtciolkmhafdlpaaVRoundsOk
import Derived.Test.YtciolkmhafdlpaaIn3
namespace Go.Proofs.Ytciolkmhafdlpaa
open Go.RowKit
set_option linter.unusedVariables false

set_option maxHeartbeats 4000000 in
theorem spfRound_walk (n : Int) (ao : Option Addr) (ac : Nat) (L : List Lnk) (f : Int) (w : World) (_ : -9223372036854775808 ≤ n ∧ n ≤ 9223372036854775807) (hA : RowSl w.heap.size w ao 3 (L.map lnkC)) (hac : L.length ≤ ac) (hmax : ac ≤ maxLen) (hgood : ∀ x ∈ L, LnkGood x)
    (_ : -9223372036854775808 ≤ f ∧ f ≤ 9223372036854775807) :
    Calls Try.prog 10 #[.int .i64 n, .slice ao L.length ac, .int .i64 f] w fun e w' => e = .returned (.bool true) ∧ Below w.heap.size w w' := by
  unfold maxLen at hmax
  have HA := Lib.hid hA; clear hA hgood
  obtain ⟨g, hg⟩ : ∃ g, g = w.heap.size := ⟨_, rfl⟩
  rw [← hg] at HA
  have HG := Lib.hid hg; clear hg
  go_enter Try.func10, Try.ntmps10
  go_wp2_with fail
  refine (spfFact_any _).mono ?_
  rintro e w1 ⟨rfl, hb⟩
  have HB1 := Lib.hid (show Below g w w1 by rw [HG.out]; exact hb); clear hb
  have hg1 : g ≤ w1.heap.size := by have := HB1.out.size; rw [← HG.out] at this; exact this
  obtain ⟨c, hc⟩ : ∃ c, c = fCode n L f := ⟨_, rfl⟩
  by_cases hc0 : c = 0
  · obtain ⟨m, p, rfl, rfl, hp, hok⟩ := fCode_zero.1 (hc.symm.trans hc0)
    clear hc hc0
    have hn8 := hok.n8
    have hn1 := hok.n1
    have hl32 := hok.few
    have HOK := Lib.hid hok; clear hok
    go_wp2_with fail
    refine (from_ok m _ _ _ g L p _ (HA.out.below HB1.out) rfl hg1 HOK.out hp).mono ?_
    rintro e w2 ⟨vf, vh, hf, rfl, hhop, hs, hb⟩
    obtain ⟨af, cf, rfl, hcf, _⟩ := hs.intsShape (A := []) (C := [_])
    have hX := hs.intSl (A := []) (C := [_])
    rw [arr_len] at hcf ⊢
    have HX := Lib.hid hX
    have HB2 := Lib.hid (HB1.out.trans (hb.mono hg1))
    have hg2 : g ≤ w2.heap.size := by have := HB2.out.size; rw [← HG.out] at this; exact this
    clear hs hb hhop hX
    go_wp2_with fail
    refine (rounds_ok m _ _ _ g L 8 _ (HA.out.below HB2.out) rfl hg2 HOK.out (by decide)).mono ?_
    rintro e w3 ⟨v, P, rfl, hs, hb⟩
    have hs' : Sep w2.heap.size w3 ([] ++ (matE v P m m (bell (edges L) 8) ++ [])) := by rw [List.append_nil]; exact hs
    obtain ⟨av, cv, rfl, hcv, hout⟩ := mat_out hs'
    obtain ⟨gv, ov, rfl, _, hcell⟩ := hout (by omega)
    have hrow := hcell p hp
    unfold rowV at hrow
    have hY := mat_sl hs' hp
    have HY := Lib.hid hY
    have HX3 := Lib.hid (HX.out.below hb)
    have HB3 := Lib.hid (HB2.out.trans (hb.mono hg2))
    have hpm : (p : Int) < (m : Int) := by omega
    have hmm : ((m : Int) == (m : Int)) = true := by simp
    clear hs hs' hb hout hcell hY
    go_wp2_with fail
    refine (in3_yes (p : Int) 0 ((m : Int) - 1) _ (by omega) (by omega)).mono ?_
    rintro e w' ⟨rfl, rfl⟩
    go_wp2_with fail
    refine (ints_any _ _ _ _ _ _ _ _ (arr (bell (edges L) 8 p) m) (arr (far (edges L) p) m) true _ HY.out HX3.out (arr_len _ _).symm (arr_len _ _).symm (by rw [arr_len]; omega) (by rw [decide_eq_true]; rfl)).mono ?_
    rintro e w4 ⟨rfl, hd⟩
    have HB4 := Lib.hid (HB3.out.trans ((below_of_drew hd).mono (by have := HB3.out.size; rw [← HG.out] at this; exact this)))
    clear hd hrow
    go_wp2
    go_ret
    exact ⟨rfl, by have := HB4.out; rw [HG.out] at this; exact this⟩
  · go_wp2_with fail
    refine (from_err _ _ _ _ _ L _ c _ (HA.out.below HB1.out) rfl (by omega) hg1 hc hc0).mono ?_
    rintro e w2 ⟨rfl, hb⟩
    have HB2 := Lib.hid (HB1.out.trans (hb.mono hg1))
    have hg2 : g ≤ w2.heap.size := by have := HB2.out.size; rw [← HG.out] at this; exact this
    clear hb
    by_cases hv : vCode n L = 0
    · obtain ⟨m, rfl, hok⟩ := vCode_zero.1 hv
      have hn8 := hok.n8
      have hn1 := hok.n1
      have ho : ¬ (0 ≤ f ∧ f ≤ (m : Int) - 1) := fun h => by
        unfold fCode at hc
        rw [if_pos hv, if_pos h] at hc
        exact hc0 hc
      have HOK := Lib.hid hok; clear hok
      have HO := Lib.hid ho
      clear ho hc hc0 hv
      go_wp2_with fail
      refine (rounds_ok m _ _ _ g L 8 _ (HA.out.below HB2.out) rfl hg2 HOK.out (by decide)).mono ?_
      rintro e w3 ⟨v, P, rfl, hs, hb⟩
      have HB3 := Lib.hid (HB2.out.trans (hb.mono hg2))
      clear hs hb
      go_wp2_with fail
      refine (in3_no f 0 ((m : Int) - 1) _ HO.out).mono ?_
      rintro e w' ⟨rfl, rfl⟩
      go_wp2
      go_ret
      exact ⟨rfl, by have := HB3.out; rw [HG.out] at this; exact this⟩
    · have hr : ¬ rCode n L 8 = 0 := by unfold rCode; rw [if_neg hv]; exact hv
      have HR := Lib.hid hr
      clear hr hc hc0 hv
      go_wp2_with fail
      refine (rounds_err _ _ _ _ _ L 8 (rCode n L 8) _ (HA.out.below HB2.out) rfl (by omega) hg2 rfl HR.out).mono ?_
      rintro e w3 ⟨rfl, hb⟩
      have HB3 := Lib.hid (HB2.out.trans (hb.mono hg2)); clear hb
      generalize rCode n L 8 = rc at *
      go_wp2
      go_ret
      exact ⟨rfl, by have := HB3.out; rw [HG.out] at this; exact this⟩
end Go.Proofs.Ytciolkmhafdlpaa
