/- NatFull returns true: all ports can be lent, and no more; what is dropped is lent to the next one. -/
import Derived.Test.YtnmddgjgmdegoaaDoorNatAny
import Derived.Test.YtnmddgjgmdegoaaDoorNatFullPlain
import Derived.Test.YtnmddgjgmdegoaaDoorIn4
namespace Go.Proofs.YtnmddgjgmdegoaaDoor
open Go.RowKit Go.Maps
set_option linter.unusedVariables false
set_option maxRecDepth 100000

set_option maxHeartbeats 2000000 in
theorem natFull_walk (low many drop : Int) (w : World) (hdoor : Door w) (_ : -9223372036854775808 ≤ low ∧ low ≤ 9223372036854775807) (_ : -9223372036854775808 ≤ many ∧ many ≤ 9223372036854775807) (hdb : -9223372036854775808 ≤ drop ∧ drop ≤ 9223372036854775807) :
    Calls Tryd.prog 5 #[.int .i64 low, .int .i64 many, .int .i64 drop] w fun e w' => e = .returned (.bool true) ∧ Below w.heap.size w w' := by
  have HSAME4 := Lib.hid (saysC 4 (by decide) w hdoor)
  have HSAME5 := Lib.hid (saysC 5 (by decide) w hdoor)
  have HFACT := Lib.hid (natFact_any w.heap.size w w (saysC 4 (by decide) w hdoor) (Nat.le_refl _) (Below.refl _ _))
  obtain ⟨G, hG⟩ : ∃ G, G = w.heap.size := ⟨_, rfl⟩
  rw [← hG] at HSAME4 HSAME5 HFACT
  have HG := Lib.hid hG; clear hG hdoor
  by_cases hlm : LmOk low many
  · obtain ⟨n, rfl⟩ := Int.eq_ofNat_of_zero_le (by have := hlm.2.1.1; omega : 0 ≤ many)
    have HLM := Lib.hid hlm
    have hl1 := hlm.1.1
    have hl2 := hlm.1.2
    have hn1 : 1 ≤ n := by have := hlm.2.1.1; omega
    have hn2 : n ≤ 30 := by have := hlm.2.1.2; omega
    have hln := hlm.2.2
    clear hlm
    go_enter Tryd.func5, Tryd.ntmps5
    go_wp2_with fail
    refine HFACT.out.mono ?_
    rintro e w1 ⟨rfl, hb⟩
    have HB1 := Lib.hid hb
    have hg1 : G ≤ w1.heap.size := by have := HB1.out.size; rw [← HG.out] at this; exact this
    clear hb HFACT
    go_wp2_with fail
    refine (natNew_ok low n w1 HLM.out).mono ?_
    rintro e w2 ⟨g, rfl, ht, hb⟩
    have HT2 := Lib.hid (ht.mono hg1)
    have HB2 := Lib.hid (HB1.out.trans (hb.mono hg1))
    clear ht hb
    go_wp2
    go_loopw [10] (fun iv wr => ∃ k : Nat, k ≤ n ∧ iv = .int .i64 k ∧ NatT G wr g low (n : Int) (fullM low k) [] ∧ Below G w wr) (fun iv _ => n - (intOf iv).toNat)
    case atStart => exact ⟨0, Nat.zero_le _, rfl, HT2.out, HB2.out⟩
    case round =>
      obtain ⟨k, hk, rfl, ht, hbel⟩ := hrel
      clear HT2 HB2 HB1 hg1
      have HT3 := Lib.hid ht
      have HB3 := Lib.hid hbel
      obtain ⟨w3, hw3⟩ : ∃ w3, w3 = wr := ⟨_, rfl⟩
      obtain rfl := hw3
      have hg3 : G ≤ w3.heap.size := by have := HB3.out.size; rw [← HG.out] at this; exact this
      clear ht hbel
      by_cases hlt : k < n
      · have hki : (k : Int) < (n : Int) := by omega
        obtain ⟨lk, hlk⟩ : ∃ lk, lk = low + (k : Int) := ⟨_, rfl⟩
        have hne : (lk != low + (k : Int)) = false := by simp [hlk]
        have HST := Lib.hid (full_step HLM.out hlt)
        rw [← hlk] at HST
        clear hlk
        have hn := natOut_any G g low (n : Int) (fullM low k) [] ((k : Int), 7) w3 HT3.out hg3
        rw [HST.out] at hn
        simp only [plV, errV_zero] at hn
        have HN := Lib.hid hn
        clear hn
        go_wp2_with fail
        refine HN.out.mono ?_
        rintro e w4 ⟨rfl, ht, hb⟩
        have HT4 := Lib.hid ht
        have HB4 := Lib.hid (HB3.out.trans hb)
        have hg4 : G ≤ w4.heap.size := by have := HB4.out.size; rw [← HG.out] at this; exact this
        clear ht hb HN
        go_wp2
        go_roundw
        case rel => exact ⟨k + 1, by omega, by go_num, HT4.out, HB4.out⟩
        case measure => simp [intOf]; omega
      · obtain rfl : k = n := by omega
        obtain ⟨n, rfl⟩ : ∃ n, n = k := ⟨_, rfl⟩
        have hki : decide ((n : Int) < (n : Int)) = false := decide_eq_false (by omega)
        have HEN := Lib.hid (full_end HLM.out)
        have hn := natOut_any G g low (n : Int) (fullM low n) [] (99, 7) w3 HT3.out hg3
        rw [HEN.out] at hn
        simp only [plV, errV_not (show ¬ (4 : Int) = 0 by decide)] at hn
        have HN := Lib.hid hn
        clear hn
        go_wp2_with fail
        refine HN.out.mono ?_
        rintro e w4 ⟨rfl, ht, hb⟩
        have HT4 := Lib.hid ht
        have HB4 := Lib.hid (HB3.out.trans hb)
        have hg4 : G ≤ w4.heap.size := by have := HB4.out.size; rw [← HG.out] at this; exact this
        clear ht hb HN
        go_wp2_with fail
        refine (HSAME4.out _ HB4.out).mono ?_
        rintro e w5 ⟨rfl, hb⟩
        have HT5 := Lib.hid (HT4.out.kept (hb))
        have HB5 := Lib.hid (HB4.out.trans (hb.mono hg4))
        have hg5 : G ≤ w5.heap.size := by have := HB5.out.size; rw [← HG.out] at this; exact this
        clear hb
        go_wp2_with fail
        refine (natLent_any G g low (n : Int) (fullM low n) [] w5 HT5.out hg5).mono ?_
        rintro e w6 ⟨v, rfl, hs, hb⟩
        rw [Int.toNat_natCast] at hs
        obtain ⟨av, cv, rfl, -⟩ := Sep.intsShape (A := []) (C := []) hs
        rw [full_lent]
        have hnn : ((n : Int) != (n : Int)) = false := by simp
        have HT6 := Lib.hid (HT5.out.kept hb)
        have HB6 := Lib.hid (HB5.out.trans (hb.mono hg5))
        have hg6 : G ≤ w6.heap.size := by have := HB6.out.size; rw [← HG.out] at this; exact this
        clear hb hs
        by_cases hd : low ≤ drop ∧ drop < low + (n : Int)
        · obtain ⟨M, hM1, hM2⟩ := full_again HLM.out hd
          have hdr := natDrop_any G g low (n : Int) (fullM low n) [] drop w6 HT6.out hg6 hdb
          rw [full_drop_yes hd, errV_zero] at hdr
          have HDR := Lib.hid hdr
          have HM1 := Lib.hid hM1
          have HM2 := Lib.hid hM2
          clear hM1 hM2 hdr
          go_wp2_with fail
          refine HDR.out.mono ?_
          rintro e w7 ⟨rfl, ht, hb⟩
          have HT7 := Lib.hid ht
          have HB7 := Lib.hid (HB6.out.trans hb)
          have hg7 : G ≤ w7.heap.size := by have := HB7.out.size; rw [← HG.out] at this; exact this
          clear ht hb HDR
          have hn := natOut_any G g low (n : Int) _ [] (99, 7) w7 HT7.out hg7
          rw [HM1.out] at hn
          simp only [plV, errV_zero] at hn
          have HN := Lib.hid hn
          clear hn
          go_wp2_with fail
          refine HN.out.mono ?_
          rintro e w8 ⟨rfl, ht, hb⟩
          have HT8 := Lib.hid ht
          have HB8 := Lib.hid (HB7.out.trans hb)
          have hg8 : G ≤ w8.heap.size := by have := HB8.out.size; rw [← HG.out] at this; exact this
          clear ht hb HN
          have hdr := natDrop_any G g low (n : Int) M [] (low + (n : Int)) w8 HT8.out hg8 (by omega)
          rw [HM2.out, errV_not (by decide : ¬ (5 : Int) = 0)] at hdr
          have HDR := Lib.hid hdr
          have hdd : (drop == drop) = true := by simp
          clear hdr
          go_wp2_with fail
          refine HDR.out.mono ?_
          rintro e w9 ⟨rfl, ht, hb⟩
          have HB9 := Lib.hid (HB8.out.trans hb)
          have hg9 : G ≤ w9.heap.size := by have := HB9.out.size; rw [← HG.out] at this; exact this
          clear ht hb HDR
          go_wp2_with fail
          refine (HSAME5.out _ HB9.out).mono ?_
          rintro e w10 ⟨rfl, hb⟩
          have HB10 := Lib.hid (HB9.out.trans (hb.mono hg9))
          clear hb
          go_wp2
          go_ret
          exact ⟨rfl, by have := HB10.out; rw [HG.out] at this; exact this⟩
        · have hdr := natDrop_any G g low (n : Int) (fullM low n) [] drop w6 HT6.out hg6 hdb
          rw [full_drop_no hd, errV_not (by decide : ¬ (5 : Int) = 0)] at hdr
          have HDR := Lib.hid hdr
          have HD := Lib.hid hd
          clear hdr hd
          go_wp2_with fail
          refine HDR.out.mono ?_
          rintro e w7 ⟨rfl, ht, hb⟩
          have HB7 := Lib.hid (HB6.out.trans hb)
          clear ht hb HDR
          by_cases h1 : drop < low
          · have hd1 : decide (drop < low) = true := decide_eq_true h1
            go_wp2
            go_ret
            exact ⟨rfl, by have := HB7.out; rw [HG.out] at this; exact this⟩
          · have hd1 : decide (drop < low) = false := decide_eq_false h1
            have hd2 : decide ((n : Int) ≤ drop - low) = true := decide_eq_true (by have := HD.out; omega)
            have hd3 : low ≤ drop := by omega
            have hd4 : drop ≤ 9223372036854775807 := hdb.2
            go_wp2
            go_ret
            exact ⟨rfl, by have := HB7.out; rw [HG.out] at this; exact this⟩
  · go_enter Tryd.func5, Tryd.ntmps5
    go_wp2_with fail
    refine HFACT.out.mono ?_
    rintro e w1 ⟨rfl, hb⟩
    have HB1 := Lib.hid hb
    clear hb HFACT
    have HNO := Lib.hid hlm
    have HNW := Lib.hid (natNew_no low many w1 hlm)
    go_wp2_with fail
    refine HNW.out.mono ?_
    rintro e w' ⟨rfl, rfl⟩
    by_cases h1 : 0 ≤ low ∧ low ≤ 65535
    · by_cases h2 : 1 ≤ many ∧ many ≤ 30
      · have h3 : decide (65536 - many < low) = true := decide_eq_true (by have := HNO.out; unfold LmOk at this; omega)
        have h4 : 1 ≤ many := h2.1
        have h5 : many ≤ 30 := h2.2
        clear hlm
        go_wp2_with fail
        refine (in4_yes _ _ _ _ h1.1 h1.2).mono ?_
        rintro e w' ⟨rfl, rfl⟩
        go_wp2_with fail
        refine (in4_yes _ _ _ _ h4 h5).mono ?_
        rintro e w' ⟨rfl, rfl⟩
        go_wp2
        go_ret
        exact ⟨rfl, by have := HB1.out; rw [HG.out] at this; exact this⟩
      · have H2 := Lib.hid h2
        clear h2 hlm
        go_wp2_with fail
        refine (in4_yes _ _ _ _ h1.1 h1.2).mono ?_
        rintro e w' ⟨rfl, rfl⟩
        go_wp2_with fail
        refine (in4_no _ _ _ _ H2.out).mono ?_
        rintro e w' ⟨rfl, rfl⟩
        go_wp2
        go_ret
        exact ⟨rfl, by have := HB1.out; rw [HG.out] at this; exact this⟩
    · have H1 := Lib.hid h1
      clear h1 hlm
      go_wp2_with fail
      refine (in4_no _ _ _ _ H1.out).mono ?_
      rintro e w' ⟨rfl, rfl⟩
      go_wp2
      go_ret
      exact ⟨rfl, by have := HB1.out; rw [HG.out] at this; exact this⟩
end Go.Proofs.YtnmddgjgmdegoaaDoor
