/- DeskLines returns true: there are as many answers as lines, and each ends. -/
import Derived.Test.YtbcfcjecobihnaaGreatDoorDskRun
import Derived.Test.YtbcfcjecobihnaaGreatDoorDskKeep
import Derived.Test.YtbcfcjecobihnaaGreatDoorDoorLaw8
import Derived.Deep.LoopGhost
namespace Go.Proofs.YtbcfcjecobihnaaGreatDoor
open Go.RowKit
set_option linter.unusedVariables false
set_option linter.unusedSimpArgs false
set_option maxRecDepth 100000

/-- Lines that have begun ahead of a place, where the last one ends. -/
def cntK (t : List UInt8) (k : Nat) : Nat := (t.take k).count 10 + if k = t.length ∧ 0 < k ∧ t[k - 1]? ≠ some 10 then 1 else 0
theorem cntK_zero (t : List UInt8) : cntK t 0 = 0 := by simp [cntK]
theorem cntK_next {t : List UInt8} {k : Nat} {c : UInt8} (h : t[k]? = some c) : cntK t (k + 1) = cntK t k + if c = 10 ∨ k + 1 = t.length then 1 else 0 := by
  have hk : k < t.length := (List.getElem?_eq_some_iff.1 h).1
  unfold cntK
  rw [count_next h, if_neg (show ¬ (k = t.length ∧ 0 < k ∧ t[k - 1]? ≠ some 10) from fun e => by omega), Nat.add_sub_cancel, h]
  have ht : t ≠ [] := by rintro rfl; simp at hk
  by_cases hc : c = 10
  · subst hc; simp
  · by_cases he : k + 1 = t.length
    · simp [hc, he, ht]
    · simp [hc, he]
theorem cntK_all (t : List UInt8) : cntK t t.length = (linesOf t).length := by
  rw [linesOf_cnt]
  unfold cntK
  rw [List.take_of_length_le (Nat.le_refl _)]
  congr 1
  cases t with
  | nil => simp
  | cons x r =>
    rw [List.getLast?_eq_getElem?]
    by_cases h : (x :: r)[(x :: r).length - 1]? = some 10
    · rw [if_neg (fun e => e.2.2 h), if_pos (.inr h)]
    · rw [if_pos ⟨rfl, by simp, h⟩, if_neg (fun e => e.elim (fun e => by cases e) h)]
theorem cntK_le (t : List UInt8) (k : Nat) : cntK t k ≤ k + 1 := by
  unfold cntK
  have h1 : (t.take k).count 10 ≤ (t.take k).length := List.count_le_length
  rw [List.length_take] at h1
  split <;> omega
set_option maxHeartbeats 2000000 in
theorem deskLines_walk (a : ByteArray) (w : World) (hdoor8 : Door8 w) (ha : a.size ≤ 9223372036854775807) :
    Calls Tryz.prog 9 #[.string a] w fun e w' => e = .returned (.bool true) ∧ Below w.heap.size w w' := by
  obtain ⟨hd0, hl0⟩ := hdoor8
  have HW := Lib.hid (DskW.of hd0 hl0)
  obtain ⟨t, rfl⟩ : ∃ t : List UInt8, a = bytesOf t := ⟨a.data.toList, (ba_eta a).symm⟩
  have hat : (bytesOf t).size = t.length := rfl
  obtain ⟨G, hG'⟩ : ∃ G, G = w.heap.size := ⟨_, rfl⟩
  have hG : G ≤ w.heap.size := Nat.le_of_eq hG'
  rw [← hG'] at HW ⊢
  have HRUN := Lib.hid (fun (x : List UInt8) (w1 : World) (hb : Below G w w1) => run_any x w1 (Nat.le_trans hG hb.size) (HW.out.below hb))
  have hm := (HRUN.out _ w (Below.refl _ _)).mono (R' := fun e w' => e = .returned (.string (bytesOf (runD [115, 101, 116, 32, 48, 32, 48, 32, 49, 10, 10, 98]))) ∧ Below w.heap.size w w') (fun e w' h => ⟨h.1, h.2.1⟩)
  rw [run_three] at hm
  have HM := Lib.hid (show Calls Tryz.prog 24 #[.string ⟨#[115, 101, 116, 32, 48, 32, 48, 32, 49, 10, 10, 98]⟩] w fun e w' => e = .returned (.string ⟨#[111, 107, 10, 98, 97, 100, 10, 98, 97, 100, 10]⟩) ∧ Below w.heap.size w w' from hm)
  rw [hat] at ha
  clear hd0 hl0 hG' hm
  go_enter Tryz.func9, Tryz.ntmps9
  go_wp2_with fail
  refine HM.out.mono ?_
  rintro e w1 ⟨rfl, hb⟩
  have HB1 := Lib.hid (hb.mono hG)
  clear hb HM
  go_wp2_with fail
  refine (HRUN.out t w1 HB1.out).mono ?_
  rintro e w2 ⟨rfl, hb, hsh⟩
  have HB2 := Lib.hid (HB1.out.trans (hb.mono (Nat.le_trans hG HB1.out.size)))
  clear hb HB1
  by_cases hlong : 3000 < t.length
  · have hd1 : decide ((3000 : Int) < (t.length : Int)) = true := decide_eq_true (by omega)
    have hrd : bytesOf (runD t) = ⟨#[116, 111, 111, 32, 108, 111, 110, 103, 10]⟩ := by
      unfold runD
      rw [if_pos hlong]; rfl
    rw [hrd]
    clear hrd
    go_wp2
    go_ret
    exact ⟨rfl, HB2.out⟩
  have hd1 : decide ((3000 : Int) < (t.length : Int)) = false := decide_eq_false (by omega)
  obtain ⟨hcnt, hend⟩ := runD_lines (A := t) (by omega)
  obtain ⟨X, hX⟩ : ∃ X, X = runD t := ⟨_, rfl⟩
  rw [← hX] at hcnt hend ⊢
  obtain ⟨xb, hxb⟩ : ∃ xb, xb = bytesOf X := ⟨_, rfl⟩
  have HXT := Lib.hid (fun (j : Nat) (c : UInt8) (h : X[j]? = some c) => (show xb[j]? = some c by rw [hxb]; exact bytes_at h))
  obtain ⟨xl, hxl⟩ : ∃ xl, xl = X.length := ⟨_, rfl⟩
  have hxs : xb.size = xl := by rw [hxb, hxl]; rfl
  rw [← hxb]
  obtain ⟨b, hb⟩ : ∃ b, b = bytesOf t := ⟨_, rfl⟩
  have HAT := Lib.hid (fun (j : Nat) (c : UInt8) (h : t[j]? = some c) => (show b[j]? = some c by rw [hb]; exact bytes_at h))
  have hsz : b.size = t.length := by rw [hb]; rfl
  obtain ⟨n, hn⟩ : ∃ n, n = t.length := ⟨_, rfl⟩
  have hcl : X.count 10 = cntK t n := by rw [hcnt, hn, cntK_all]
  have HCL := Lib.hid hcl
  have HEND := Lib.hid hend
  have HXL := Lib.hid hxl
  have HN := Lib.hid hn
  have hn3 : n ≤ 3000 := by omega
  have hxl3 : xl ≤ 1000000 := by
    rw [hxl, hX]
    have := hsh (by omega)
    omega
  have hat2 : (n : Int) - 1 = (n : Int) - 1 := rfl
  rw [← hb] at hat ⊢
  rw [← hn] at hsz hd1 hat
  clear hb hat hX hxb hcnt hend hxl hn hcl hlong hat2 ha hsh
  go_wp2
  go_loopg [5, 6] n (fun gk lv iv wr => ∃ (k : Nat), gk + k = n ∧ lv = .int .i64 (cntK t k) ∧ iv = .int .i64 k ∧ Below G w wr)
  case atStart => exact ⟨0, rfl, by rw [cntK_zero]; rfl, rfl, HB2.out⟩
  case round =>
    obtain ⟨gi, rfl⟩ : ∃ gi, gi = gk := ⟨_, rfl⟩
    obtain ⟨k, hgi, rfl, rfl, hbel⟩ := hrel
    clear HB2
    have HB3 := Lib.hid hbel
    obtain ⟨w3, hw3⟩ : ∃ w3, w3 = wr := ⟨_, rfl⟩
    obtain rfl := hw3
    clear hbel
    by_cases hlt : k < n
    · have hki : decide ((k : Int) < (n : Int)) = true := decide_eq_true (by omega)
      have hkI : (k : Int) < (n : Int) := by omega
      have hk0 : (0 : Int) ≤ (k : Int) := by omega
      obtain ⟨c, hc⟩ : ∃ c, t[k]? = some c := ⟨_, List.getElem?_eq_getElem (by rw [← HN.out]; exact hlt)⟩
      have hks : k < b.size := by omega
      have hct := byte_at (HAT.out k c hc) hks
      have hnx := cntK_next hc
      rw [← HN.out] at hnx
      have hcb := cntK_le t k
      obtain ⟨cn, hcn⟩ : ∃ cn, cn = cntK t k := ⟨_, rfl⟩
      rw [← hcn] at hnx hcb ⊢
      have HNX := Lib.hid hnx
      clear hc hcn hnx
      by_cases h10 : c = 10
      · have HC1 := Lib.hid (show cntK t (k + 1) = cn + 1 by rw [HNX.out, if_pos (.inl h10)])
        clear HNX
        subst h10
        have hce : (((10 : UInt8).toNat : Int) == 10) = true := by decide
        go_wp2
        go_roundg (gi - 1)
        case measure => omega
        case rel => exact ⟨k + 1, by omega, by rw [HC1.out]; go_num, by go_num, HB3.out⟩
      · have hce : ((c.toNat : Int) == 10) = false := beq_eq_false_iff_ne.2 (fun h => h10 (UInt8.toNat_inj.1 (show c.toNat = (10 : UInt8).toNat by simpa using (by omega : c.toNat = 10))))
        obtain ⟨n1, hn1⟩ : ∃ n1, n1 = n - 1 := ⟨_, rfl⟩
        have hnI : (n : Int) - 1 = (n1 : Int) := by omega
        by_cases hke : k = n1
        · have hk1 : ((k : Int) == (n1 : Int)) = true := by rw [hke]; simp
          have HC1 := Lib.hid (show cntK t (k + 1) = cn + 1 by rw [HNX.out, if_pos (.inr (by omega))])
          have HKE := Lib.hid hke
          clear h10 hke HNX
          go_wp2
          go_roundg (gi - 1)
          case measure => omega
          case rel => exact ⟨k + 1, by omega, by rw [HC1.out]; go_num, by go_num, HB3.out⟩
        · have hk1 : ((k : Int) == (n1 : Int)) = false := beq_eq_false_iff_ne.2 (by omega)
          have hk1n : (k == n1) = false := beq_eq_false_iff_ne.2 hke
          have HC1 := Lib.hid (show cntK t (k + 1) = cn by rw [HNX.out, if_neg (fun e => e.elim h10 (fun e => by omega))]; rfl)
          clear h10 hke HNX
          go_wp2
          go_roundg (gi - 1)
          case measure => omega
          case rel => exact ⟨k + 1, by omega, by rw [HC1.out], by go_num, HB3.out⟩
    · obtain rfl : k = n := by omega
      have hki : decide ((k : Int) < (k : Int)) = false := by simp
      obtain ⟨ln, hln⟩ : ∃ ln, ln = cntK t k := ⟨_, rfl⟩
      have hlb := cntK_le t k
      rw [← hln] at HCL hlb ⊢
      clear hlt hgi hln HN HAT
      go_wp2
      go_loopg [7, 8] xl (fun gk lv iv wr => ∃ (j : Nat), gk + j = xl ∧ lv = .int .i64 ((X.take j).count 10 : Nat) ∧ iv = .int .i64 j ∧ Below G w wr)
      case atStart => exact ⟨0, rfl, rfl, rfl, HB3.out⟩
      case round =>
        obtain ⟨gi, rfl⟩ : ∃ gi, gi = gk := ⟨_, rfl⟩
        obtain ⟨j, hgi, rfl, rfl, hbel⟩ := hrel
        clear HB3
        have HB4 := Lib.hid hbel
        obtain ⟨w4, hw4⟩ : ∃ w4, w4 = wr := ⟨_, rfl⟩
        obtain rfl := hw4
        clear hbel
        by_cases hlt : j < xl
        · have hji : decide ((j : Int) < (xl : Int)) = true := decide_eq_true (by omega)
          have hjI : (j : Int) < (xl : Int) := by omega
          have hj0 : (0 : Int) ≤ (j : Int) := by omega
          obtain ⟨c, hc⟩ : ∃ c, X[j]? = some c := ⟨_, List.getElem?_eq_getElem (by rw [← HXL.out]; exact hlt)⟩
          have hjs : j < xb.size := by omega
          have hct := byte_at (HXT.out j c hc) hjs
          have HNX := Lib.hid (count_next hc)
          have hcb : (X.take j).count 10 ≤ j := Nat.le_trans List.count_le_length (by rw [List.length_take]; omega)
          obtain ⟨cn, hcn⟩ : ∃ cn, cn = (X.take j).count 10 := ⟨_, rfl⟩
          rw [← hcn] at HNX hcb ⊢
          clear hc hcn
          by_cases h10 : c = 10
          · have HC1 := Lib.hid (show (X.take (j + 1)).count 10 = cn + 1 by rw [HNX.out, if_pos h10])
            clear HNX
            subst h10
            have hce : (((10 : UInt8).toNat : Int) == 10) = true := by decide
            go_wp2
            go_roundg (gi - 1)
            case measure => omega
            case rel => exact ⟨j + 1, by omega, by rw [HC1.out]; go_num, by go_num, HB4.out⟩
          · have hce : ((c.toNat : Int) == 10) = false := beq_eq_false_iff_ne.2 (fun h => h10 (UInt8.toNat_inj.1 (show c.toNat = (10 : UInt8).toNat by simpa using (by omega : c.toNat = 10))))
            have HC1 := Lib.hid (show (X.take (j + 1)).count 10 = cn by rw [HNX.out, if_neg h10]; rfl)
            clear h10 HNX
            go_wp2
            go_roundg (gi - 1)
            case measure => omega
            case rel => exact ⟨j + 1, by omega, by rw [HC1.out], by go_num, HB4.out⟩
        · obtain rfl : j = xl := by omega
          have hji : decide ((j : Int) < (j : Int)) = false := by simp
          have htk : (X.take j).count 10 = ln := by rw [HXL.out, List.take_of_length_le (Nat.le_refl _)]; exact HCL.out
          rw [htk]
          have hll : ((ln : Int) == (ln : Int)) = true := by simp
          clear htk hlt hgi
          by_cases h0 : j = 0
          · have hx0 : ((j : Int) == 0) = true := by rw [h0]; rfl
            have HH0 := Lib.hid h0
            clear h0
            go_wp2
            go_ret
            exact ⟨rfl, HB4.out⟩
          · have hx0 : ((j : Int) == 0) = false := beq_eq_false_iff_ne.2 (by omega)
            have hx0n : (j == 0) = false := beq_eq_false_iff_ne.2 h0
            obtain ⟨j1, hj1⟩ : ∃ j1, j1 = j - 1 := ⟨_, rfl⟩
            have hjI : (j : Int) - 1 = (j1 : Int) := by omega
            have hj10 : (0 : Int) ≤ (j1 : Int) := by omega
            have hj1l : (j1 : Int) < (j : Int) := by omega
            have hc : X[j1]? = some 10 := by
              rcases HEND.out with h | ⟨A, h⟩
              · have := HXL.out; rw [h] at this; simp at this; omega
              · have h2 := HXL.out
                rw [h, List.length_append, List.length_singleton] at h2
                rw [h, show j1 = A.length by omega, List.getElem?_append_right (Nat.le_refl _), Nat.sub_self]; rfl
            have hjs : j1 < xb.size := by omega
            have hct := byte_at (HXT.out j1 10 hc) hjs
            have hce : (((10 : UInt8).toNat : Int) == 10) = true := by decide
            clear hc h0 hj1
            go_wp2
            go_ret
            exact ⟨rfl, HB4.out⟩
end Go.Proofs.YtbcfcjecobihnaaGreatDoor
