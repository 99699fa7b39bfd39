/- MuxApart returns true: what lacks in one stream holds up nothing of the others. -/
import Derived.Test.YthnlpmjfibidcaaRows
import Derived.Test.YthnlpmjfibidcaaMuxAny
import Derived.Test.YthnlpmjfibidcaaFrm
import Derived.Test.YthnlpmjfibidcaaIn4
namespace Go.Proofs.Ythnlpmjfibidcaa
open Go.RowKit
set_option linter.unusedVariables false

/-- A stream of which the first bytes came is read whole. -/
theorem runTo_put (d : List UInt8) : ∀ (n k : Nat), k + n = 200 → k ≤ d.length → d.length ≤ 200 → runTo (putF (fun _ => none) 0 d) n k = d.length
  | 0, k, h1, h2, h3 => by unfold runTo; omega
  | n + 1, k, h1, h2, h3 => by
    unfold runTo
    by_cases hk : k < d.length
    · have : (putF (fun _ => none) 0 d k).isSome = true := by simp [putF, hk]
      rw [if_pos this]
      exact runTo_put d n (k + 1) (by omega) (by omega) h3
    · have : ¬ (putF (fun _ => none) 0 d k).isSome = true := by simp [putF]; omega
      rw [if_neg this]; omega
theorem text_put (d : List UInt8) (h : d.length ≤ 200) : Str.text ⟨putF (fun _ => none) 0 d, 0⟩ = d := by
  have hn : Str.next ⟨putF (fun _ => none) 0 d, 0⟩ = d.length := runTo_put d 200 0 rfl (Nat.zero_le _) h
  unfold Str.text
  rw [hn]
  apply List.ext_getElem?
  intro j
  by_cases hj : j < d.length
  · simp [bytesOf, hj, putF]
  · rw [List.getElem?_eq_none (by rw [bytesOf_len]; omega), List.getElem?_eq_none (by omega)]

set_option maxHeartbeats 1000000 in
set_option maxRecDepth 100000 in
theorem muxApart_walk (ao : Option Addr) (ac : Nat) (fs : List Frm) (i : Int) (s : ByteArray) (w : World) (hA : RowSl w.heap.size w ao 3 (fs.map frmCells)) (hac : fs.length ≤ ac) (hmax : ac ≤ maxLen)
    (hg : ∀ x ∈ fs, FrmGood x) (_ : -9223372036854775808 ≤ i ∧ i ≤ 9223372036854775807) (hss : s.size ≤ 9223372036854775807) :
    Calls Try.prog 3 #[.slice ao fs.length ac, .int .i64 i, .string s] w fun e w' => e = .returned (.bool true) ∧ Below w.heap.size w w' := by
  unfold maxLen at hmax
  have HA := Lib.hid hA; clear hA
  have HG := Lib.hid hg; clear hg
  go_enter Try.func3, Try.ntmps3
  go_wp2_with fail
  refine (muxFact_any _).mono ?_
  rintro e w1 ⟨rfl, hb⟩
  have HB1 := Lib.hid hb; clear hb
  go_wp2_with fail
  refine (muxNew_any _).mono ?_
  rintro e w2 ⟨g, rfl, hsep, hb⟩
  have HB2 := Lib.hid (HB1.out.trans (hb.mono HB1.out.size)); clear hb
  have HS2 := Lib.hid (hsep.mono HB1.out.size); clear hsep
  go_wp2_with fail
  go_loopw [9] (fun x wr => ∃ (k : Nat) (ss : List Str), k ≤ fs.length ∧ x = .int .i64 k ∧ Hid (ss.length = 4) ∧ Hid (∀ s ∈ ss, s.read ≤ 200) ∧ Hid (∀ m : Nat, i = (m : Int) → m < 4 → ss[m]? = some Str.new) ∧
    Sep w.heap.size wr [Ent.mux 56 g ss] ∧ Below w.heap.size w wr) (fun x _ => fs.length - (intOf x).toNat)
  case atStart => exact ⟨0, List.replicate 4 Str.new, Nat.zero_le _, rfl, rfl, fun s hs => by obtain ⟨_, rfl⟩ := List.mem_replicate.1 hs; decide, fun m _ hm => by rw [List.getElem?_replicate, if_pos hm], HS2.out, HB2.out⟩
  case round =>
    obtain ⟨k, ss, hk, rfl, hl, hr, hnew, hs, hb⟩ := hrel
    have HS := Lib.hid hs; clear hs
    have HB := Lib.hid hb; clear hb
    by_cases hlt : k < fs.length ∧ k < 30
    · obtain ⟨hlt, h30⟩ := hlt
      obtain ⟨x, hx⟩ : ∃ x, fs[k]? = some x := ⟨_, List.getElem?_eq_getElem hlt⟩
      obtain ⟨b, off, rfl, hbb, c0, c1, c2⟩ := (HA.out.below HB.out).frm hx
      have hgx := (HG.out x (List.mem_iff_getElem?.2 ⟨k, hx⟩)).2.1
      have Hx := Lib.hid hx; clear hx
      have hd30 : decide ((k : Int) < 30) = true := by simp; omega
      by_cases hxi : x.1 = i
      · have hne : (x.1 != i) = false := by simp [hxi]
        have Hxi := Lib.hid hxi; clear hxi
        go_wp2
        go_roundw
        case rel => exact ⟨k + 1, ss, by omega, by go_num, hl, hr, hnew, HS.out, HB.out⟩
        case measure => simp [intOf]; omega
      · have hne : (x.1 != i) = true := by simp [hxi]
        have Hxi := Lib.hid hxi; clear hxi
        go_wp2_with fail
        refine (muxPut_any _ g ss [] _ _ _ _ hgx hl.out HS.out HB.out.size).mono ?_
        rintro e w3 ⟨rfl, hsep, hb3⟩
        have HS3 := Lib.hid hsep; clear hsep
        have HB3 := Lib.hid (HB.out.trans hb3); clear hb3
        generalize errVal 57 (muxPut ss x.1 x.2.1 x.2.2.data.toList).1 = ev
        go_wp2
        go_roundw
        case rel => exact ⟨k + 1, _, by omega, by go_num, (muxPut_len _ _ _ _).trans hl.out, muxPut_read _ _ _ hr.out, fun m hm h4 => by rw [muxPut_other (by rw [← hm]; exact Hxi.out)]; exact hnew.out m hm h4, HS3.out, HB3.out⟩
        case measure => simp [intOf]; omega
    · by_cases hlenk : k < fs.length
      · have hd30 : decide ((k : Int) < 30) = false := by simp; omega
        by_cases hin : 0 ≤ i ∧ i ≤ 3
        · obtain ⟨hi0, hi3⟩ := hin
          obtain ⟨m, rfl⟩ := Int.eq_ofNat_of_zero_le hi0
          have hm4 : m < 4 := by omega
          have hsm := hnew.out m rfl hm4
          have HSM := Lib.hid hsm; clear hsm
          by_cases hlen : s.size ≤ 200
          · have hput : muxPut ss (m : Int) 0 s.data.toList = (0, ss.set m ⟨putF (fun _ => none) 0 s.data.toList, 0⟩) := by
              have hcl : clashB (fun _ => none) 0 s.data.toList = false := by
                cases h : clashB (fun _ => none) 0 s.data.toList with
                | false => rfl
                | true => obtain ⟨_, _, _, _, h2, _⟩ := (clashB_iff _ _ _).1 h; cases h2
              unfold muxPut
              rw [if_neg (by omega), if_neg (by simp; omega)]
              simp only [Int.toNat_natCast, HSM.out, Str.new, Int.toNat_zero, hcl, Bool.false_eq_true, if_false]
            have HP := Lib.hid hput; clear hput
            have HT := Lib.hid (text_put s.data.toList (by simpa using hlen))
            go_wp2_with fail
            refine (frameOf_any _ _ _ _).mono ?_
            rintro e w3 ⟨rfl, hb3⟩
            have HS3 := Lib.hid (HS.out.kept hb3)
            have HB3 := Lib.hid (HB.out.trans (hb3.mono HB.out.size)); clear hb3
            go_wp2_with fail
            refine (muxPut_any _ g ss [] _ _ _ _ (by decide) hl.out HS3.out HB3.out.size).mono ?_
            rintro e w4 ⟨rfl, hsep, hb4⟩
            rw [HP.out] at hsep ⊢
            have HS4 := Lib.hid hsep; clear hsep
            have HB4 := Lib.hid (HB3.out.trans hb4); clear hb4
            simp only [errVal, if_true]
            go_wp2_with fail
            refine (muxRead_ok _ g _ [] m ⟨putF (fun _ => none) 0 s.data.toList, 0⟩ _ hm4 (List.getElem?_set_self (by rw [hl.out]; exact hm4)) (Nat.zero_le _) HS4.out HB4.out.size).mono ?_
            rintro e w5 ⟨rfl, hsep, hb5⟩
            rw [HT.out]
            have hse : (⟨s.data.toList.toArray⟩ : ByteArray) = s := by simp
            rw [hse]
            have HB5 := Lib.hid (HB4.out.trans hb5); clear hb5 hsep hse
            go_wp2
            go_ret
            exact ⟨ret_bool (by simp), HB5.out⟩
          · have hput : muxPut ss (m : Int) 0 s.data.toList = (4, ss) := by
              unfold muxPut
              rw [if_neg (by omega), if_pos (by simp; omega)]
            have HP := Lib.hid hput; clear hput
            have hgt : decide ((200 : Int) < (s.size : Int)) = true := by simp; omega
            go_wp2_with fail
            refine (frameOf_any _ _ _ _).mono ?_
            rintro e w3 ⟨rfl, hb3⟩
            have HS3 := Lib.hid (HS.out.kept hb3)
            have HB3 := Lib.hid (HB.out.trans (hb3.mono HB.out.size)); clear hb3
            go_wp2_with fail
            refine (muxPut_any _ g ss [] _ _ _ _ (by decide) hl.out HS3.out HB3.out.size).mono ?_
            rintro e w4 ⟨rfl, hsep, hb4⟩
            rw [HP.out]
            have HB4 := Lib.hid (HB3.out.trans hb4); clear hb4 hsep
            simp only [errVal]
            go_wp2_with fail
            refine (in4_yes _ _ _ _ (by omega) (by omega)).mono ?_
            rintro e w' ⟨rfl, rfl⟩
            go_wp2
            go_ret
            exact ⟨rfl, HB4.out⟩
        · have hput : muxPut ss i 0 s.data.toList = (1, ss) := by
            unfold muxPut
            rw [if_pos (.inl hin)]
          have HP := Lib.hid hput; clear hput
          have HI := Lib.hid hin; clear hin
          go_wp2_with fail
          refine (frameOf_any _ _ _ _).mono ?_
          rintro e w3 ⟨rfl, hb3⟩
          have HS3 := Lib.hid (HS.out.kept hb3)
          have HB3 := Lib.hid (HB.out.trans (hb3.mono HB.out.size)); clear hb3
          go_wp2_with fail
          refine (muxPut_any _ g ss [] _ _ _ _ (by decide) hl.out HS3.out HB3.out.size).mono ?_
          rintro e w4 ⟨rfl, hsep, hb4⟩
          rw [HP.out]
          have HB4 := Lib.hid (HB3.out.trans hb4); clear hb4 hsep
          simp only [errVal]
          go_wp2_with fail
          refine (in4_no _ _ _ _ HI.out).mono ?_
          rintro e w' ⟨rfl, rfl⟩
          go_wp2
          go_ret
          exact ⟨rfl, HB4.out⟩
      · have hk0 : ¬ k < fs.length := hlenk
        by_cases hin : 0 ≤ i ∧ i ≤ 3
        · obtain ⟨hi0, hi3⟩ := hin
          obtain ⟨m, rfl⟩ := Int.eq_ofNat_of_zero_le hi0
          have hm4 : m < 4 := by omega
          have hsm := hnew.out m rfl hm4
          have HSM := Lib.hid hsm; clear hsm
          by_cases hlen : s.size ≤ 200
          · have hput : muxPut ss (m : Int) 0 s.data.toList = (0, ss.set m ⟨putF (fun _ => none) 0 s.data.toList, 0⟩) := by
              have hcl : clashB (fun _ => none) 0 s.data.toList = false := by
                cases h : clashB (fun _ => none) 0 s.data.toList with
                | false => rfl
                | true => obtain ⟨_, _, _, _, h2, _⟩ := (clashB_iff _ _ _).1 h; cases h2
              unfold muxPut
              rw [if_neg (by omega), if_neg (by simp; omega)]
              simp only [Int.toNat_natCast, HSM.out, Str.new, Int.toNat_zero, hcl, Bool.false_eq_true, if_false]
            have HP := Lib.hid hput; clear hput
            have HT := Lib.hid (text_put s.data.toList (by simpa using hlen))
            go_wp2_with fail
            refine (frameOf_any _ _ _ _).mono ?_
            rintro e w3 ⟨rfl, hb3⟩
            have HS3 := Lib.hid (HS.out.kept hb3)
            have HB3 := Lib.hid (HB.out.trans (hb3.mono HB.out.size)); clear hb3
            go_wp2_with fail
            refine (muxPut_any _ g ss [] _ _ _ _ (by decide) hl.out HS3.out HB3.out.size).mono ?_
            rintro e w4 ⟨rfl, hsep, hb4⟩
            rw [HP.out] at hsep ⊢
            have HS4 := Lib.hid hsep; clear hsep
            have HB4 := Lib.hid (HB3.out.trans hb4); clear hb4
            simp only [errVal, if_true]
            go_wp2_with fail
            refine (muxRead_ok _ g _ [] m ⟨putF (fun _ => none) 0 s.data.toList, 0⟩ _ hm4 (List.getElem?_set_self (by rw [hl.out]; exact hm4)) (Nat.zero_le _) HS4.out HB4.out.size).mono ?_
            rintro e w5 ⟨rfl, hsep, hb5⟩
            rw [HT.out]
            have hse : (⟨s.data.toList.toArray⟩ : ByteArray) = s := by simp
            rw [hse]
            have HB5 := Lib.hid (HB4.out.trans hb5); clear hb5 hsep hse
            go_wp2
            go_ret
            exact ⟨ret_bool (by simp), HB5.out⟩
          · have hput : muxPut ss (m : Int) 0 s.data.toList = (4, ss) := by
              unfold muxPut
              rw [if_neg (by omega), if_pos (by simp; omega)]
            have HP := Lib.hid hput; clear hput
            have hgt : decide ((200 : Int) < (s.size : Int)) = true := by simp; omega
            go_wp2_with fail
            refine (frameOf_any _ _ _ _).mono ?_
            rintro e w3 ⟨rfl, hb3⟩
            have HS3 := Lib.hid (HS.out.kept hb3)
            have HB3 := Lib.hid (HB.out.trans (hb3.mono HB.out.size)); clear hb3
            go_wp2_with fail
            refine (muxPut_any _ g ss [] _ _ _ _ (by decide) hl.out HS3.out HB3.out.size).mono ?_
            rintro e w4 ⟨rfl, hsep, hb4⟩
            rw [HP.out]
            have HB4 := Lib.hid (HB3.out.trans hb4); clear hb4 hsep
            simp only [errVal]
            go_wp2_with fail
            refine (in4_yes _ _ _ _ (by omega) (by omega)).mono ?_
            rintro e w' ⟨rfl, rfl⟩
            go_wp2
            go_ret
            exact ⟨rfl, HB4.out⟩
        · have hput : muxPut ss i 0 s.data.toList = (1, ss) := by
            unfold muxPut
            rw [if_pos (.inl hin)]
          have HP := Lib.hid hput; clear hput
          have HI := Lib.hid hin; clear hin
          go_wp2_with fail
          refine (frameOf_any _ _ _ _).mono ?_
          rintro e w3 ⟨rfl, hb3⟩
          have HS3 := Lib.hid (HS.out.kept hb3)
          have HB3 := Lib.hid (HB.out.trans (hb3.mono HB.out.size)); clear hb3
          go_wp2_with fail
          refine (muxPut_any _ g ss [] _ _ _ _ (by decide) hl.out HS3.out HB3.out.size).mono ?_
          rintro e w4 ⟨rfl, hsep, hb4⟩
          rw [HP.out]
          have HB4 := Lib.hid (HB3.out.trans hb4); clear hb4 hsep
          simp only [errVal]
          go_wp2_with fail
          refine (in4_no _ _ _ _ HI.out).mono ?_
          rintro e w' ⟨rfl, rfl⟩
          go_wp2
          go_ret
          exact ⟨rfl, HB4.out⟩
end Go.Proofs.Ythnlpmjfibidcaa
