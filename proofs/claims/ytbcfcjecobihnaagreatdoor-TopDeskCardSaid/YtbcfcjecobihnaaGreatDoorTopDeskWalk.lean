/- TopDesk returns true: a crash loses nothing that was put down. -/
import Derived.Test.YtbcfcjecobihnaaGreatDoorDskRun
import Derived.Test.YtbcfcjecobihnaaGreatDoorDskKeep
import Derived.Test.YtbcfcjecobihnaaGreatDoorLastL
import Derived.Test.YtbcfcjecobihnaaGreatDoorPk1
import Derived.Test.YtbcfcjecobihnaaGreatDoorDoorLaw8
namespace Go.Proofs.YtbcfcjecobihnaaGreatDoor
open Go.RowKit
set_option linter.unusedVariables false
set_option linter.unusedSimpArgs false
set_option maxRecDepth 100000

set_option maxHeartbeats 8000000 in
theorem topDesk_walk (a : ByteArray) (addr : Int) (w : World) (hdoor8 : Door8 w) (ha : a.size ≤ 9223372036854775807) (hb1 : -9223372036854775808 ≤ addr ∧ addr ≤ 9223372036854775807) :
    Calls Tryz.prog 12 #[.string a, .int .i64 addr] w fun e w' => e = .returned (.bool true) ∧ Below w.heap.size w w' := by
  obtain ⟨hd0, hl0⟩ := hdoor8
  have HW := Lib.hid (DskW.of hd0 hl0)
  obtain ⟨t, rfl⟩ : ∃ t : List UInt8, a = bytesOf t := ⟨a.data.toList, (ba_eta a).symm⟩
  obtain ⟨b, hb⟩ : ∃ b, b = bytesOf t := ⟨_, rfl⟩
  obtain ⟨tl, htl⟩ : ∃ tl, tl = t.length := ⟨_, rfl⟩
  have hsz : b.size = tl := by rw [hb, htl]; rfl
  obtain ⟨G, hG'⟩ : ∃ G, G = w.heap.size := ⟨_, rfl⟩
  have hG : G ≤ w.heap.size := Nat.le_of_eq hG'
  rw [← hG'] at HW ⊢
  have HRUN := Lib.hid (fun (x : List UInt8) (w1 : World) (hb : Below G w w1) => run_any x w1 (Nat.le_trans hG hb.size) (HW.out.below hb))
  have hm := (HRUN.out manyT w (Below.refl _ _)).mono (R' := fun e w' => e = .returned (.string (bytesOf (runD manyT))) ∧ Below w.heap.size w w') (fun e w' h => ⟨h.1, h.2.1⟩)
  rw [run_many] at hm
  have HM := Lib.hid (show Calls Tryz.prog 24 #[.string ⟨#[109, 97, 110, 121]⟩] w fun e w' => e = .returned (.string ⟨#[48, 10]⟩) ∧ Below w.heap.size w w' from hm)
  rw [← hb] at ha ⊢
  rw [hsz] at ha
  have HBB := Lib.hid hb
  have HTL := Lib.hid htl
  have HAT := Lib.hid (fun (j : Nat) (c : UInt8) (h : t[j]? = some c) => (show b[j]? = some c by rw [hb]; exact bytes_at h))
  clear hd0 hl0 hG' hm hb htl
  go_enter Tryz.func12, Tryz.ntmps12
  go_wp2_with fail
  refine HM.out.mono ?_
  rintro e w1 ⟨rfl, hb⟩
  have HB1 := Lib.hid (hb.mono hG)
  clear hb HM
  by_cases hlong : 2900 < tl
  · have hd1 : decide ((2900 : Int) < (tl : Int)) = true := decide_eq_true (by omega)
    go_wp2
    go_ret
    exact ⟨rfl, HB1.out⟩
  have hd1 : decide ((2900 : Int) < (tl : Int)) = false := decide_eq_false (by omega)
  have HKEEP := Lib.hid (fun (hE : EndN t) (a : Nat) (ha : a ≤ 65535) => topT hE (by rw [← HTL.out]; omega) ha)
  by_cases h0 : 0 < tl
  · have hd2 : decide ((0 : Int) < (tl : Int)) = true := decide_eq_true (by omega)
    have hd2n : decide (0 < tl) = true := decide_eq_true h0
    obtain ⟨t1, ht1⟩ : ∃ t1, t1 = tl - 1 := ⟨_, rfl⟩
    have htI : (tl : Int) - 1 = (t1 : Int) := by omega
    have ht10 : (0 : Int) ≤ (t1 : Int) := by omega
    have ht1l : (t1 : Int) < (tl : Int) := by omega
    obtain ⟨c, hc⟩ : ∃ c, t[t1]? = some c := ⟨_, List.getElem?_eq_getElem (by rw [← HTL.out]; omega)⟩
    have hts : t1 < b.size := by omega
    have hct := byte_at (HAT.out t1 c hc) hts
    by_cases h10 : c = 10
    · have HEND := Lib.hid (show EndN t from by
        have h1 := endN_take (t := t) (k := tl) (.inr (by rw [← ht1, hc, h10]))
        rw [HTL.out, List.take_of_length_le (Nat.le_refl _)] at h1
        exact h1)
      have hcn : ((c.toNat : Int) != 10) = false := by rw [h10]; decide
      clear h10 hc ht1 HAT
      have hpq : tl ≤ 2900 := by omega
      have htle : t.length ≤ 2900 := by rw [← HTL.out]; exact hpq
      clear hlong h0
      by_cases hin1 : 0 ≤ addr ∧ addr ≤ 65535
      rotate_left
      · have hin := inT_any addr 0 65535 w1
        rw [decide_eq_false hin1] at hin
        have HIN := Lib.hid hin
        clear hin
        go_wp2_with fail
        refine HIN.out.mono ?_
        rintro e w' ⟨rfl, hw⟩
        rw [hw]
        clear hw
        go_wp2
        go_ret
        exact ⟨rfl, HB1.out⟩
      have hI1 := inT_any addr 0 65535 w1
      rw [decide_eq_true hin1] at hI1
      have HI1 := Lib.hid hI1
      clear hI1
      obtain ⟨a, rfl⟩ := Int.eq_ofNat_of_zero_le hin1.1
      have ha : a ≤ 65535 := by omega
      obtain ⟨x1, x2, HKT⟩ := HKEEP.out HEND.out a ha
      obtain ⟨s1, e1⟩ : ∃ s1, s1 = digS a := ⟨_, rfl⟩
      have z1 : s1.size ≤ 25 := by rw [e1]; exact digS_size a (by omega)
      have HD1 := Lib.hid (fun (w1 : World) => refDigits_any a w1 (by omega))
      rw [← e1] at HD1
      obtain ⟨b2, eb2⟩ : ∃ b2, b2 = bytesOf (findLn a ++ [10]) := ⟨_, rfl⟩
      have hdig : ∀ n, digS n = bytesOf (Lib.decDigits n) := fun n => rfl
      have hcat2 : (⟨#[102, 105, 110, 100, 32]⟩ : ByteArray) ++ s1 ++ ⟨#[10]⟩ = b2 := by
        rw [e1, eb2, hdig]
        apply ByteArray.ext
        simp [bytesOf, ByteArray.data_append, findLn, findT]
      have l2 := findLn_len ha
      have zb2 : b2.size ≤ 21 := by rw [eb2]; show (findLn a ++ [10]).length ≤ 21; rw [List.length_append]; simp only [List.length_cons, List.length_nil]; omega
      have h9 : Lib.decDigits 9999999 = [57, 57, 57, 57, 57, 57, 57] := by decide +kernel
      have hcr : (⟨#[99, 114, 97, 115, 104, 32, 57, 57, 57, 57, 57, 57, 57, 10]⟩ : ByteArray) = bytesOf (crashLn ++ [10]) := by
        apply ByteArray.ext
        simp [bytesOf, crashLn, crashT, h9]
      have hmn : (⟨#[109, 97, 110, 121, 10]⟩ : ByteArray) = bytesOf (manyT ++ [10]) := by
        apply ByteArray.ext
        simp [bytesOf, manyT]
      have hcm : (⟨#[99, 114, 97, 115, 104, 32, 57, 57, 57, 57, 57, 57, 57, 10, 109, 97, 110, 121, 10]⟩ : ByteArray) = bytesOf ((crashLn ++ [10]) ++ (manyT ++ [10])) := by
        apply ByteArray.ext
        simp [bytesOf, crashLn, crashT, h9, manyT]
      have happ : ∀ x y : List UInt8, bytesOf x ++ bytesOf y = bytesOf (x ++ y) := fun x y => by
        apply ByteArray.ext
        simp [bytesOf, ByteArray.data_append]
      obtain ⟨y1, ey1⟩ : ∃ y, y = bytesOf (x1 ++ [10]) := ⟨_, rfl⟩
      obtain ⟨y2, ey2⟩ : ∃ y, y = bytesOf (x2 ++ [10]) := ⟨_, rfl⟩
      have mk : ∀ (x : List UInt8) (arg : ByteArray) (txt : List UInt8) (y : ByteArray), arg = bytesOf txt → (∃ P, EndN P ∧ runD txt = P ++ (x ++ [10])) → (10 : UInt8) ∉ x → txt.length ≤ 3000 → y = bytesOf (x ++ [10]) → RunLast 34 G w arg y := by
        intro x arg txt y harg hr hn hlen hy
        obtain ⟨P, hP, hr⟩ := hr
        refine ⟨⟨bytesOf (P ++ (x ++ [10])), txt.length ≤ 3000 → (runD txt).length ≤ 300000, fun w1 hb1 => ?_, fun hS w1 => ?_⟩⟩
        · rw [harg, ← hr]; exact HRUN.out txt w1 hb1
        · rw [hy]
          exact lastLineT_any P x w1 hP hn (by rw [← hr]; have := hS hlen; omega)
      have l3 := crashLn_len
      have l4 : manyT.length = 4 := rfl
      have hR1 := mk x1 (b ++ b2) _ y1 (by rw [HBB.out, eb2, happ]) HKT.r1 HKT.n1 (by simp only [List.length_append, List.length_cons, List.length_nil]; omega) ey1
      have hR2 := mk x1 (b ++ ⟨#[99, 114, 97, 115, 104, 32, 57, 57, 57, 57, 57, 57, 57, 10]⟩ ++ b2) _ y1 (by rw [HBB.out, eb2, hcr, happ, happ]) HKT.r2 HKT.n1 (by simp only [List.length_append, List.length_cons, List.length_nil]; omega) ey1
      have hR3 := mk x2 (b ++ ⟨#[109, 97, 110, 121, 10]⟩) _ y2 (by rw [HBB.out, hmn, happ]) HKT.r3 HKT.n2 (by simp only [List.length_append, List.length_cons, List.length_nil]; omega) ey2
      have hR4 := mk x2 (b ++ ⟨#[99, 114, 97, 115, 104, 32, 57, 57, 57, 57, 57, 57, 57, 10, 109, 97, 110, 121, 10]⟩) ((t ++ (crashLn ++ [10])) ++ (manyT ++ [10])) y2 (by rw [HBB.out, hcm, happ]; congr 1; simp) HKT.r4 HKT.n2 (by simp only [List.length_append, List.length_cons, List.length_nil]; omega) ey2
      obtain ⟨n1, en1⟩ : ∃ n1, n1 = y1.size := ⟨_, rfl⟩
      have hn1 : 1 < n1 := by
        rw [en1, ey1]
        show 1 < (x1 ++ [10]).length
        have := List.length_pos_iff.2 HKT.ne
        rw [List.length_append, List.length_singleton]; omega
      have hy1s : y1.size = n1 := en1.symm
      have hn1d : decide ((1 : Int) < (n1 : Int)) = true := decide_eq_true (by omega)
      have HR1 := Lib.hid hR1
      have HR2 := Lib.hid hR2
      have HR3 := Lib.hid hR3
      have HR4 := Lib.hid hR4
      have HC2 := Lib.hid hcat2
      have k5 : ¬ 9223372036854775807 < 5 + s1.size := by omega
      have k6 : ¬ 9223372036854775807 < 5 + s1.size + 1 := by omega
      have k8 : ¬ 9223372036854775807 < tl + b2.size := by omega
      have k10 : ¬ 9223372036854775807 < tl + 14 := by omega
      have k11 : ¬ 9223372036854775807 < tl + 14 + b2.size := by omega
      have k12 : ¬ 9223372036854775807 < tl + 5 := by omega
      have k13 : ¬ 9223372036854775807 < tl + 19 := by omega
      clear hR1 hR2 hR3 hR4 hcat2 mk happ hcr hmn hcm ey1 ey2 hdig eb2 e1 HKT l2 l3 l4 hin1 ha HKEEP HEND h9 en1
      go_wp2_with fail
      refine HI1.out.mono ?_
      rintro e w' ⟨rfl, hw⟩
      rw [hw]
      clear hw HI1
      go_wp2_with fail
      refine (HD1.out _).mono ?_
      rintro e w' ⟨rfl, hw⟩
      rw [← hw]
      clear hw
      go_upto_region 7 with fail
      rw [HC2.out]
      clear k5 k6 HD1
      obtain ⟨z1, S1, hrun1, hlast1⟩ := (HR1.out).go
      have HRUN1 := Lib.hid hrun1
      have HLAST1 := Lib.hid hlast1
      clear hrun1 hlast1
      go_wp2_with fail
      refine (HRUN1.out _ HB1.out).mono ?_
      rintro e w2 ⟨rfl, hb, hS⟩
      have HL1 := Lib.hid (HLAST1.out hS)
      have HB2 := Lib.hid (HB1.out.trans (hb.mono (Nat.le_trans hG HB1.out.size)))
      clear hb hS HB1 HRUN1 HLAST1
      go_wp2_with fail
      refine (HL1.out _).mono ?_
      rintro e w3 ⟨rfl, hb⟩
      have HB3 := Lib.hid (HB2.out.trans (hb.mono (Nat.le_trans hG HB2.out.size)))
      clear hb HB2 HL1
      obtain ⟨z2, S2, hrun2, hlast2⟩ := (HR2.out).go
      have HRUN2 := Lib.hid hrun2
      have HLAST2 := Lib.hid hlast2
      clear hrun2 hlast2
      go_wp2_with fail
      refine (HRUN2.out _ HB3.out).mono ?_
      rintro e w4 ⟨rfl, hb, hS⟩
      have HL2 := Lib.hid (HLAST2.out hS)
      have HB4 := Lib.hid (HB3.out.trans (hb.mono (Nat.le_trans hG HB3.out.size)))
      clear hb hS HB3 HRUN2 HLAST2
      go_wp2_with fail
      refine (HL2.out _).mono ?_
      rintro e w5 ⟨rfl, hb⟩
      have HB5 := Lib.hid (HB4.out.trans (hb.mono (Nat.le_trans hG HB4.out.size)))
      clear hb HB4 HL2
      obtain ⟨z3, S3, hrun3, hlast3⟩ := (HR3.out).go
      have HRUN3 := Lib.hid hrun3
      have HLAST3 := Lib.hid hlast3
      clear hrun3 hlast3
      go_wp2_with fail
      refine (HRUN3.out _ HB5.out).mono ?_
      rintro e w6 ⟨rfl, hb, hS⟩
      have HL3 := Lib.hid (HLAST3.out hS)
      have HB6 := Lib.hid (HB5.out.trans (hb.mono (Nat.le_trans hG HB5.out.size)))
      clear hb hS HB5 HRUN3 HLAST3
      go_wp2_with fail
      refine (HL3.out _).mono ?_
      rintro e w7 ⟨rfl, hb⟩
      have HB7 := Lib.hid (HB6.out.trans (hb.mono (Nat.le_trans hG HB6.out.size)))
      clear hb HB6 HL3
      obtain ⟨z4, S4, hrun4, hlast4⟩ := (HR4.out).go
      have HRUN4 := Lib.hid hrun4
      have HLAST4 := Lib.hid hlast4
      clear hrun4 hlast4
      go_wp2_with fail
      refine (HRUN4.out _ HB7.out).mono ?_
      rintro e w8 ⟨rfl, hb, hS⟩
      have HL4 := Lib.hid (HLAST4.out hS)
      have HB8 := Lib.hid (HB7.out.trans (hb.mono (Nat.le_trans hG HB7.out.size)))
      clear hb hS HB7 HRUN4 HLAST4
      go_wp2_with fail
      refine (HL4.out _).mono ?_
      rintro e w9 ⟨rfl, hb⟩
      have HB9 := Lib.hid (HB8.out.trans (hb.mono (Nat.le_trans hG HB8.out.size)))
      clear hb HB8 HL4
      clear k8 k10 k11 k12 k13
      go_wp2
      go_ret
      exact ⟨rfl, HB9.out⟩
    · have hcn : ((c.toNat : Int) != 10) = true := bne_iff_ne.2 (fun h => h10 (UInt8.toNat_inj.1 (show c.toNat = (10 : UInt8).toNat by simpa using (by omega : c.toNat = 10))))
      clear h10 hc ht1
      go_wp2
      go_ret
      exact ⟨rfl, HB1.out⟩
  · have hd2 : decide ((0 : Int) < (tl : Int)) = false := decide_eq_false (by omega)
    have hd2n : decide (0 < tl) = false := decide_eq_false h0
    have HEND := Lib.hid (show EndN t from .inl (List.eq_nil_of_length_eq_zero (by rw [← HTL.out]; omega)))
    have hpq : tl ≤ 2900 := by omega
    have htle : t.length ≤ 2900 := by rw [← HTL.out]; exact hpq
    clear hlong h0
    by_cases hin1 : 0 ≤ addr ∧ addr ≤ 65535
    rotate_left
    · have hin := inT_any addr 0 65535 w1
      rw [decide_eq_false hin1] at hin
      have HIN := Lib.hid hin
      clear hin
      go_wp2_with fail
      refine HIN.out.mono ?_
      rintro e w' ⟨rfl, hw⟩
      rw [hw]
      clear hw
      go_wp2
      go_ret
      exact ⟨rfl, HB1.out⟩
    have hI1 := inT_any addr 0 65535 w1
    rw [decide_eq_true hin1] at hI1
    have HI1 := Lib.hid hI1
    clear hI1
    obtain ⟨a, rfl⟩ := Int.eq_ofNat_of_zero_le hin1.1
    have ha : a ≤ 65535 := by omega
    obtain ⟨x1, x2, HKT⟩ := HKEEP.out HEND.out a ha
    obtain ⟨s1, e1⟩ : ∃ s1, s1 = digS a := ⟨_, rfl⟩
    have z1 : s1.size ≤ 25 := by rw [e1]; exact digS_size a (by omega)
    have HD1 := Lib.hid (fun (w1 : World) => refDigits_any a w1 (by omega))
    rw [← e1] at HD1
    obtain ⟨b2, eb2⟩ : ∃ b2, b2 = bytesOf (findLn a ++ [10]) := ⟨_, rfl⟩
    have hdig : ∀ n, digS n = bytesOf (Lib.decDigits n) := fun n => rfl
    have hcat2 : (⟨#[102, 105, 110, 100, 32]⟩ : ByteArray) ++ s1 ++ ⟨#[10]⟩ = b2 := by
      rw [e1, eb2, hdig]
      apply ByteArray.ext
      simp [bytesOf, ByteArray.data_append, findLn, findT]
    have l2 := findLn_len ha
    have zb2 : b2.size ≤ 21 := by rw [eb2]; show (findLn a ++ [10]).length ≤ 21; rw [List.length_append]; simp only [List.length_cons, List.length_nil]; omega
    have h9 : Lib.decDigits 9999999 = [57, 57, 57, 57, 57, 57, 57] := by decide +kernel
    have hcr : (⟨#[99, 114, 97, 115, 104, 32, 57, 57, 57, 57, 57, 57, 57, 10]⟩ : ByteArray) = bytesOf (crashLn ++ [10]) := by
      apply ByteArray.ext
      simp [bytesOf, crashLn, crashT, h9]
    have hmn : (⟨#[109, 97, 110, 121, 10]⟩ : ByteArray) = bytesOf (manyT ++ [10]) := by
      apply ByteArray.ext
      simp [bytesOf, manyT]
    have hcm : (⟨#[99, 114, 97, 115, 104, 32, 57, 57, 57, 57, 57, 57, 57, 10, 109, 97, 110, 121, 10]⟩ : ByteArray) = bytesOf ((crashLn ++ [10]) ++ (manyT ++ [10])) := by
      apply ByteArray.ext
      simp [bytesOf, crashLn, crashT, h9, manyT]
    have happ : ∀ x y : List UInt8, bytesOf x ++ bytesOf y = bytesOf (x ++ y) := fun x y => by
      apply ByteArray.ext
      simp [bytesOf, ByteArray.data_append]
    obtain ⟨y1, ey1⟩ : ∃ y, y = bytesOf (x1 ++ [10]) := ⟨_, rfl⟩
    obtain ⟨y2, ey2⟩ : ∃ y, y = bytesOf (x2 ++ [10]) := ⟨_, rfl⟩
    have mk : ∀ (x : List UInt8) (arg : ByteArray) (txt : List UInt8) (y : ByteArray), arg = bytesOf txt → (∃ P, EndN P ∧ runD txt = P ++ (x ++ [10])) → (10 : UInt8) ∉ x → txt.length ≤ 3000 → y = bytesOf (x ++ [10]) → RunLast 34 G w arg y := by
      intro x arg txt y harg hr hn hlen hy
      obtain ⟨P, hP, hr⟩ := hr
      refine ⟨⟨bytesOf (P ++ (x ++ [10])), txt.length ≤ 3000 → (runD txt).length ≤ 300000, fun w1 hb1 => ?_, fun hS w1 => ?_⟩⟩
      · rw [harg, ← hr]; exact HRUN.out txt w1 hb1
      · rw [hy]
        exact lastLineT_any P x w1 hP hn (by rw [← hr]; have := hS hlen; omega)
    have l3 := crashLn_len
    have l4 : manyT.length = 4 := rfl
    have hR1 := mk x1 (b ++ b2) _ y1 (by rw [HBB.out, eb2, happ]) HKT.r1 HKT.n1 (by simp only [List.length_append, List.length_cons, List.length_nil]; omega) ey1
    have hR2 := mk x1 (b ++ ⟨#[99, 114, 97, 115, 104, 32, 57, 57, 57, 57, 57, 57, 57, 10]⟩ ++ b2) _ y1 (by rw [HBB.out, eb2, hcr, happ, happ]) HKT.r2 HKT.n1 (by simp only [List.length_append, List.length_cons, List.length_nil]; omega) ey1
    have hR3 := mk x2 (b ++ ⟨#[109, 97, 110, 121, 10]⟩) _ y2 (by rw [HBB.out, hmn, happ]) HKT.r3 HKT.n2 (by simp only [List.length_append, List.length_cons, List.length_nil]; omega) ey2
    have hR4 := mk x2 (b ++ ⟨#[99, 114, 97, 115, 104, 32, 57, 57, 57, 57, 57, 57, 57, 10, 109, 97, 110, 121, 10]⟩) ((t ++ (crashLn ++ [10])) ++ (manyT ++ [10])) y2 (by rw [HBB.out, hcm, happ]; congr 1; simp) HKT.r4 HKT.n2 (by simp only [List.length_append, List.length_cons, List.length_nil]; omega) ey2
    obtain ⟨n1, en1⟩ : ∃ n1, n1 = y1.size := ⟨_, rfl⟩
    have hn1 : 1 < n1 := by
      rw [en1, ey1]
      show 1 < (x1 ++ [10]).length
      have := List.length_pos_iff.2 HKT.ne
      rw [List.length_append, List.length_singleton]; omega
    have hy1s : y1.size = n1 := en1.symm
    have hn1d : decide ((1 : Int) < (n1 : Int)) = true := decide_eq_true (by omega)
    have HR1 := Lib.hid hR1
    have HR2 := Lib.hid hR2
    have HR3 := Lib.hid hR3
    have HR4 := Lib.hid hR4
    have HC2 := Lib.hid hcat2
    have k5 : ¬ 9223372036854775807 < 5 + s1.size := by omega
    have k6 : ¬ 9223372036854775807 < 5 + s1.size + 1 := by omega
    have k8 : ¬ 9223372036854775807 < tl + b2.size := by omega
    have k10 : ¬ 9223372036854775807 < tl + 14 := by omega
    have k11 : ¬ 9223372036854775807 < tl + 14 + b2.size := by omega
    have k12 : ¬ 9223372036854775807 < tl + 5 := by omega
    have k13 : ¬ 9223372036854775807 < tl + 19 := by omega
    clear hR1 hR2 hR3 hR4 hcat2 mk happ hcr hmn hcm ey1 ey2 hdig eb2 e1 HKT l2 l3 l4 hin1 ha HKEEP HEND h9 en1
    go_wp2_with fail
    refine HI1.out.mono ?_
    rintro e w' ⟨rfl, hw⟩
    rw [hw]
    clear hw HI1
    go_wp2_with fail
    refine (HD1.out _).mono ?_
    rintro e w' ⟨rfl, hw⟩
    rw [← hw]
    clear hw
    go_upto_region 7 with fail
    rw [HC2.out]
    clear k5 k6 HD1
    obtain ⟨z1, S1, hrun1, hlast1⟩ := (HR1.out).go
    have HRUN1 := Lib.hid hrun1
    have HLAST1 := Lib.hid hlast1
    clear hrun1 hlast1
    go_wp2_with fail
    refine (HRUN1.out _ HB1.out).mono ?_
    rintro e w2 ⟨rfl, hb, hS⟩
    have HL1 := Lib.hid (HLAST1.out hS)
    have HB2 := Lib.hid (HB1.out.trans (hb.mono (Nat.le_trans hG HB1.out.size)))
    clear hb hS HB1 HRUN1 HLAST1
    go_wp2_with fail
    refine (HL1.out _).mono ?_
    rintro e w3 ⟨rfl, hb⟩
    have HB3 := Lib.hid (HB2.out.trans (hb.mono (Nat.le_trans hG HB2.out.size)))
    clear hb HB2 HL1
    obtain ⟨z2, S2, hrun2, hlast2⟩ := (HR2.out).go
    have HRUN2 := Lib.hid hrun2
    have HLAST2 := Lib.hid hlast2
    clear hrun2 hlast2
    go_wp2_with fail
    refine (HRUN2.out _ HB3.out).mono ?_
    rintro e w4 ⟨rfl, hb, hS⟩
    have HL2 := Lib.hid (HLAST2.out hS)
    have HB4 := Lib.hid (HB3.out.trans (hb.mono (Nat.le_trans hG HB3.out.size)))
    clear hb hS HB3 HRUN2 HLAST2
    go_wp2_with fail
    refine (HL2.out _).mono ?_
    rintro e w5 ⟨rfl, hb⟩
    have HB5 := Lib.hid (HB4.out.trans (hb.mono (Nat.le_trans hG HB4.out.size)))
    clear hb HB4 HL2
    obtain ⟨z3, S3, hrun3, hlast3⟩ := (HR3.out).go
    have HRUN3 := Lib.hid hrun3
    have HLAST3 := Lib.hid hlast3
    clear hrun3 hlast3
    go_wp2_with fail
    refine (HRUN3.out _ HB5.out).mono ?_
    rintro e w6 ⟨rfl, hb, hS⟩
    have HL3 := Lib.hid (HLAST3.out hS)
    have HB6 := Lib.hid (HB5.out.trans (hb.mono (Nat.le_trans hG HB5.out.size)))
    clear hb hS HB5 HRUN3 HLAST3
    go_wp2_with fail
    refine (HL3.out _).mono ?_
    rintro e w7 ⟨rfl, hb⟩
    have HB7 := Lib.hid (HB6.out.trans (hb.mono (Nat.le_trans hG HB6.out.size)))
    clear hb HB6 HL3
    obtain ⟨z4, S4, hrun4, hlast4⟩ := (HR4.out).go
    have HRUN4 := Lib.hid hrun4
    have HLAST4 := Lib.hid hlast4
    clear hrun4 hlast4
    go_wp2_with fail
    refine (HRUN4.out _ HB7.out).mono ?_
    rintro e w8 ⟨rfl, hb, hS⟩
    have HL4 := Lib.hid (HLAST4.out hS)
    have HB8 := Lib.hid (HB7.out.trans (hb.mono (Nat.le_trans hG HB7.out.size)))
    clear hb hS HB7 HRUN4 HLAST4
    go_wp2_with fail
    refine (HL4.out _).mono ?_
    rintro e w9 ⟨rfl, hb⟩
    have HB9 := Lib.hid (HB8.out.trans (hb.mono (Nat.le_trans hG HB8.out.size)))
    clear hb HB8 HL4
    clear k8 k10 k11 k12 k13
    go_wp2
    go_ret
    exact ⟨rfl, HB9.out⟩
end Go.Proofs.YtbcfcjecobihnaaGreatDoor
