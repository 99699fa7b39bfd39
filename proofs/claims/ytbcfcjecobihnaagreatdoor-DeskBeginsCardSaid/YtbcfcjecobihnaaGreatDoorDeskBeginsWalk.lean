/- DeskBegins returns true: the answers to a beginning are a beginning of the answers. -/
import Derived.Test.YtbcfcjecobihnaaGreatDoorDskRun
import Derived.Test.YtbcfcjecobihnaaGreatDoorDskKeep
import Derived.Test.YtbcfcjecobihnaaGreatDoorLastL
import Derived.Test.YtbcfcjecobihnaaGreatDoorDoorLaw8
import Derived.Deep.LoopGhost
namespace Go.Proofs.YtbcfcjecobihnaaGreatDoor
open Go.RowKit
set_option linter.unusedVariables false
set_option linter.unusedSimpArgs false
set_option maxRecDepth 100000

set_option maxHeartbeats 2000000 in
theorem deskBegins_walk (a : ByteArray) (k : Int) (w : World) (hdoor8 : Door8 w) (ha : a.size ≤ 9223372036854775807) (hk : -9223372036854775808 ≤ k ∧ k ≤ 9223372036854775807) :
    Calls Tryz.prog 8 #[.string a, .int .i64 k] w fun e w' => e = .returned (.bool true) ∧ Below w.heap.size w w' := by
  obtain ⟨hd0, hl0⟩ := hdoor8
  have HW := Lib.hid (DskW.of hd0 hl0)
  obtain ⟨t, rfl⟩ : ∃ t : List UInt8, a = bytesOf t := ⟨a.data.toList, (ba_eta a).symm⟩
  have hat : (bytesOf t).size = t.length := rfl
  obtain ⟨G, hG'⟩ : ∃ G, G = w.heap.size := ⟨_, rfl⟩
  have hG : G ≤ w.heap.size := Nat.le_of_eq hG'
  rw [← hG'] at HW ⊢
  have HRUN := Lib.hid (fun (x : List UInt8) (w1 : World) (hb : Below G w w1) => (run_any x w1 (Nat.le_trans hG hb.size) (HW.out.below hb)).mono (R' := fun e w' => e = .returned (.string (bytesOf (runD x))) ∧ Below w1.heap.size w1 w') (fun e w' h => ⟨h.1, h.2.1⟩))
  have hm := HRUN.out manyT w (Below.refl _ _)
  rw [run_many] at hm
  have HM := Lib.hid (show Calls Tryz.prog 24 #[.string ⟨#[109, 97, 110, 121]⟩] w fun e w' => e = .returned (.string ⟨#[48, 10]⟩) ∧ Below w.heap.size w w' from hm)
  rw [hat] at ha
  clear hd0 hl0 hG' hm
  go_enter Tryz.func8, Tryz.ntmps8
  go_wp2_with fail
  refine HM.out.mono ?_
  rintro e w1 ⟨rfl, hb⟩
  have HB1 := Lib.hid (hb.mono hG)
  clear hb HM
  by_cases hlong : 3000 < t.length
  · have hd1 : decide ((3000 : Int) < (t.length : Int)) = true := decide_eq_true (by omega)
    go_wp2
    go_ret
    exact ⟨rfl, HB1.out⟩
  have hd1 : decide ((3000 : Int) < (t.length : Int)) = false := decide_eq_false (by omega)
  by_cases hneg : k < 0
  · have hd2 : decide (k < 0) = true := decide_eq_true hneg
    go_wp2
    go_ret
    exact ⟨rfl, HB1.out⟩
  have hd2 : decide (k < 0) = false := decide_eq_false hneg
  obtain ⟨m, rfl⟩ := Int.eq_ofNat_of_zero_le (Int.not_lt.1 hneg)
  clear hneg
  by_cases hbig : t.length < m
  · have hd3 : decide ((t.length : Int) < (m : Int)) = true := decide_eq_true (by omega)
    have hd3n : decide (t.length < m) = true := decide_eq_true hbig
    go_wp2
    go_ret
    exact ⟨rfl, HB1.out⟩
  have hd3 : decide ((t.length : Int) < (m : Int)) = false := decide_eq_false (by omega)
  have hd3n : decide (t.length < m) = false := decide_eq_false hbig
  obtain ⟨b, hb⟩ : ∃ b, b = bytesOf t := ⟨_, rfl⟩
  have HAT := Lib.hid (fun (j : Nat) (c : UInt8) (h : t[j]? = some c) => (show b[j]? = some c by rw [hb]; exact bytes_at h))
  have HEX := Lib.hid (fun j => (show b.extract 0 j = bytesOf (t.take j) by rw [hb]; exact ext_take _ _))
  have HBB := Lib.hid hb
  have hsz : b.size = t.length := by rw [hb]; rfl
  have hfin : ∀ j, j ≤ m → EndN (t.take j) → ∃ (xb yb : ByteArray) (p q : Nat), xb.size = p ∧ yb.size = q ∧ p ≤ q ∧ yb.extract 0 p = xb ∧
      (∀ w1, Below G w w1 → Calls Tryz.prog 24 #[.string (bytesOf (t.take j))] w1 fun e w' => e = .returned (.string xb) ∧ Below w1.heap.size w1 w') ∧
      (∀ w1, Below G w w1 → Calls Tryz.prog 24 #[.string b] w1 fun e w' => e = .returned (.string yb) ∧ Below w1.heap.size w1 w') := by
    intro j hj hE
    obtain ⟨z, hz⟩ := runD_begins (A := t.take j) (B := t.drop j) hE (by rw [List.take_append_drop]; omega)
    rw [List.take_append_drop] at hz
    refine ⟨bytesOf (runD (t.take j)), bytesOf (runD t), (runD (t.take j)).length, (runD t).length, rfl, rfl, by rw [hz, List.length_append]; omega, ?_, fun w1 hb1 => HRUN.out _ w1 hb1, fun w1 hb1 => by rw [hb]; exact HRUN.out _ w1 hb1⟩
    rw [ext_take, hz, List.take_left]
  have HFIN := Lib.hid hfin
  clear hfin
  rw [← hb] at hat ⊢
  clear hb hat
  go_wp2
  go_loopg [1] m (fun gk iv wr => ∃ (j : Nat), gk = j ∧ j ≤ m ∧ iv = .int .i64 j ∧ Below G w wr)
  case atStart => exact ⟨m, rfl, Nat.le_refl _, rfl, HB1.out⟩
  case round =>
    obtain ⟨gi, rfl⟩ : ∃ gi, gi = gk := ⟨_, rfl⟩
    obtain ⟨j, rfl, hjm, rfl, hbel⟩ := hrel
    clear HB1
    have HB2 := Lib.hid hbel
    obtain ⟨w2, hw2⟩ : ∃ w2, w2 = wr := ⟨_, rfl⟩
    obtain rfl := hw2
    clear hbel
    by_cases h0 : 0 < gi
    · obtain ⟨c, hc⟩ : ∃ c, t[gi - 1]? = some c := ⟨_, List.getElem?_eq_getElem (by omega)⟩
      have hct0 := HAT.out _ _ hc
      obtain ⟨i1, hi1⟩ : ∃ i1, i1 = gi - 1 := ⟨_, rfl⟩
      rw [← hi1] at hct0
      have his : i1 < b.size := by omega
      have hct := byte_at hct0 his
      clear hct0
      have hii : (gi : Int) - 1 = (i1 : Int) := by omega
      have hi10 : (0 : Int) ≤ (i1 : Int) := by omega
      have hi1l : (i1 : Int) < (t.length : Int) := by omega
      have hpos : decide ((0 : Int) < (gi : Int)) = true := decide_eq_true (by omega)
      have hposn : decide (0 < gi) = true := decide_eq_true h0
      by_cases h10 : c = 10
      · have HE := Lib.hid (endN_take (t := t) (k := gi) (.inr (by rw [hc, h10])))
        subst h10
        have hcn : (((10 : UInt8).toNat : Int) != 10) = false := by decide
        clear hc hi1 h0
        obtain ⟨xb, yb, p, q, hxs, hys, hpq, hex, hX, hY⟩ := HFIN.out gi hjm HE.out
        have HX := Lib.hid hX
        have HY := Lib.hid hY
        have hle : decide ((p : Int) ≤ (q : Int)) = true := decide_eq_true (by omega)
        have hlen : decide (p ≤ q) = true := decide_eq_true hpq
        have hp0 : (0 : Int) ≤ (p : Int) := by omega
        have hpqI : (p : Int) ≤ (q : Int) := by omega
        have hext := HEX.out gi
        have hj0 : (0 : Int) ≤ (gi : Int) := by omega
        have hjl : (gi : Int) ≤ (t.length : Int) := by omega
        have hjln : gi ≤ t.length := by omega
        clear hX hY HFIN
        go_wp2_with fail
        refine (HX.out w2 HB2.out).mono ?_
        rintro e w3 ⟨rfl, hb⟩
        have HB3 := Lib.hid (HB2.out.trans (hb.mono (Nat.le_trans hG HB2.out.size)))
        clear hb HB2
        go_wp2_with fail
        refine (HY.out w3 HB3.out).mono ?_
        rintro e w4 ⟨rfl, hb⟩
        have HB4 := Lib.hid (HB3.out.trans (hb.mono (Nat.le_trans hG HB3.out.size)))
        clear hb HB3
        go_wp2
        go_ret
        exact ⟨rfl, HB4.out⟩
      · have hcn : ((c.toNat : Int) != 10) = true := bne_iff_ne.2 (fun h => h10 (UInt8.toNat_inj.1 (show c.toNat = (10 : UInt8).toNat by simpa using (by omega : c.toNat = 10))))
        have HI := Lib.hid (And.intro hi1 h0)
        clear hc h10 hi1
        go_wp2
        go_roundg i1
        case measure => have := HI.out; omega
        case rel => exact ⟨i1, rfl, by have := HI.out; omega, by go_num, HB2.out⟩
    · have hpos : decide ((0 : Int) < (gi : Int)) = false := decide_eq_false (by omega)
      have hposn : decide (0 < gi) = false := decide_eq_false h0
      have HE := Lib.hid (endN_take (t := t) (k := gi) (.inl (by omega)))
      clear h0
      obtain ⟨xb, yb, p, q, hxs, hys, hpq, hex, hX, hY⟩ := HFIN.out gi hjm HE.out
      have HX := Lib.hid hX
      have HY := Lib.hid hY
      have hle : decide ((p : Int) ≤ (q : Int)) = true := decide_eq_true (by omega)
      have hlen : decide (p ≤ q) = true := decide_eq_true hpq
      have hp0 : (0 : Int) ≤ (p : Int) := by omega
      have hpqI : (p : Int) ≤ (q : Int) := by omega
      have hext := HEX.out gi
      have hj0 : (0 : Int) ≤ (gi : Int) := by omega
      have hjl : (gi : Int) ≤ (t.length : Int) := by omega
      have hjln : gi ≤ t.length := by omega
      clear hX hY HFIN
      go_wp2_with fail
      refine (HX.out w2 HB2.out).mono ?_
      rintro e w3 ⟨rfl, hb⟩
      have HB3 := Lib.hid (HB2.out.trans (hb.mono (Nat.le_trans hG HB2.out.size)))
      clear hb HB2
      go_wp2_with fail
      refine (HY.out w3 HB3.out).mono ?_
      rintro e w4 ⟨rfl, hb⟩
      have HB4 := Lib.hid (HB3.out.trans (hb.mono (Nat.le_trans hG HB3.out.size)))
      clear hb HB3
      go_wp2
      go_ret
      exact ⟨rfl, HB4.out⟩
end Go.Proofs.YtbcfcjecobihnaaGreatDoor
