/- ferryhytheref4.Digits, Sum. -/
import Derived.Test.YtbcfcjecobihnaaDoorBookSum
import Derived.Lib.ItoaLen
import Derived.Deep.DeepCutAuto
namespace Go.Proofs.YtbcfcjecobihnaaDoor
open Go.RowKit
set_option linter.unusedVariables false
set_option linter.unusedSimpArgs false
set_option maxRecDepth 100000

abbrev digS (n : Nat) : ByteArray := ⟨(Lib.decDigits n).toArray⟩
theorem digS_step {n : Nat} (h : ¬ n < 10) : digS (n / 10) ++ digS (n % 10) = digS n := by
  have h1 := Lib.decDigits_one (i := n % 10) (Nat.mod_lt _ (by decide))
  unfold digS
  rw [h1, show Lib.decDigits n = Lib.decDigits (n / 10) ++ [UInt8.ofNat (48 + n % 10)] by rw [Lib.decDigits, dif_neg h]]
  apply ByteArray.ext
  simp [ByteArray.data_append]
theorem dig_one {n : Nat} (h : n < 10) : (⟨#[48, 49, 50, 51, 52, 53, 54, 55, 56, 57]⟩ : ByteArray).extract n (n + 1) = digS n := by
  unfold digS
  rw [Lib.decDigits_one h]
  have : n = 0 ∨ n = 1 ∨ n = 2 ∨ n = 3 ∨ n = 4 ∨ n = 5 ∨ n = 6 ∨ n = 7 ∨ n = 8 ∨ n = 9 := by omega
  rcases this with rfl | rfl | rfl | rfl | rfl | rfl | rfl | rfl | rfl | rfl <;> decide
theorem digS_size (n : Nat) (hn : n ≤ 9223372036854775807) : (digS n).size ≤ 25 := by
  have := Lib.itoa_length_le (n : Int) (by omega) (by omega)
  rw [Lib.itoa_nonneg] at this
  show (Lib.decDigits n).toArray.size ≤ 25
  rw [List.size_toArray]
  omega
theorem refDigits_any : ∀ (n : Nat) (w : World), n ≤ 9223372036854775807 → Calls Tryd.prog 18 #[.int .i64 (n : Int)] w fun e w' => e = .returned (.string (digS n)) ∧ w = w' := by
  intro n
  induction n using Nat.strongRecOn with
  | _ n ih =>
    intro w hn
    by_cases h10 : n < 10
    · have hd : decide ((n : Int) < 10) = true := decide_eq_true (by omega)
      have h0 : (0 : Int) ≤ (n : Int) := by omega
      have h9 : (n : Int) < 10 := by omega
      have HE := Lib.hid (dig_one h10)
      clear ih
      go_enter Tryd.func18, Tryd.ntmps18
      go_wp2
      go_ret
      rw [HE.out]
      exact ⟨rfl, rfl⟩
    · have hd : decide ((n : Int) < 10) = false := decide_eq_false (by omega)
      have hi1 := ih (n / 10) (by omega)
      have hi2 := ih (n % 10) (by omega)
      have HST := Lib.hid (digS_step h10)
      obtain ⟨q, hq⟩ : ∃ q, q = n / 10 := ⟨_, rfl⟩
      obtain ⟨r, hr⟩ : ∃ r, r = n % 10 := ⟨_, rfl⟩
      have hqI : (n : Int).tdiv 10 = (q : Int) := by rw [hq, Int.tdiv_eq_ediv_of_nonneg (by omega)]; omega
      have hrI : (n : Int).tmod 10 = (r : Int) := by rw [hr, Int.tmod_eq_emod_of_nonneg (by omega)]; omega
      have hqw : IntKind.i64.wrap (q : Int) = (q : Int) := by simp [IntKind.wrap, IntKind.bits, IntKind.signed]; omega
      have hrw : IntKind.i64.wrap (r : Int) = (r : Int) := by simp [IntKind.wrap, IntKind.bits, IntKind.signed]; omega
      have z1 := digS_size q (by omega)
      have z2 := digS_size r (by omega)
      rw [← hq] at hi1 HST
      rw [← hr] at hi2 HST
      have k1 : ¬ 9223372036854775807 < (digS q).size + (digS r).size := by omega
      have HI1 := Lib.hid (hi1 w (by omega))
      have HI2 := Lib.hid (hi2 w (by omega))
      clear ih hi1 hi2 hq hr h10
      go_enter Tryd.func18, Tryd.ntmps18
      go_wp2_with fail
      refine HI1.out.mono ?_
      rintro e w' ⟨rfl, rfl⟩
      go_wp2_with fail
      refine HI2.out.mono ?_
      rintro e w' ⟨rfl, rfl⟩
      generalize digS q = s1 at *
      generalize digS r = s2 at *
      go_wp2
      go_ret
      rw [HST.out]
      exact ⟨rfl, rfl⟩
set_option maxHeartbeats 1000000 in
theorem refSum_any (s : ByteArray) (w : World) (hl : s.size ≤ 10000) : Calls Tryd.prog 36 #[.string s] w fun e w' => e = .returned (.int .i64 (sumB s.data.toList : Nat)) ∧ w = w' := by
  have hle : s.data.toList.length = s.size := by simp
  go_enter Tryd.func36, Tryd.ntmps36
  obtain ⟨l, hl2⟩ : ∃ l, l = s.data.toList := ⟨_, rfl⟩
  rw [← hl2] at hle ⊢
  obtain ⟨R, hR⟩ : ∃ R, R = sumB l := ⟨_, rfl⟩
  rw [← hR]
  have HR := Lib.hid hR
  have HL2 := Lib.hid hl2
  clear hR hl2
  go_wp2
  go_loop [3, 4] (fun nv iv => ∃ (k S : Nat) (v : Int), k ≤ l.length ∧ v + 1 = (k : Int) ∧ iv = .int .i64 v ∧ nv = .int .i64 (S : Int) ∧ Hid (S + sumTo l k = sumTo l l.length)) (fun _ iv => (intOf iv + 1).toNat)
  case atStart => exact ⟨l.length, 0, _, Nat.le_refl _, by rw [hle]; omega, rfl, rfl, Nat.zero_add _⟩
  case round =>
    obtain ⟨k, S, v, hk, hv, rfl, rfl, HT⟩ := hrel
    have hsl := sumTo_le l l.length (by omega)
    rw [← HT.out] at hsl
    rcases Nat.eq_zero_or_pos k with h0 | h0
    · subst h0
      obtain rfl : v = -1 := by omega
      have hm : Int.tmod (S : Int) 9973 = ((S % 9973 : Nat) : Int) := by rw [Int.tmod_eq_emod_of_nonneg (by omega)]; rfl
      have hm2 : IntKind.i64.wrap ((S % 9973 : Nat) : Int) = ((S % 9973 : Nat) : Int) := by simp [IntKind.wrap, IntKind.bits, IntKind.signed]; omega
      have hr : R = S % 9973 := by
        have := HT.out
        simp only [sumTo, Nat.add_zero] at this
        rw [HR.out]; unfold sumB; rw [← this]
      rw [← hr] at hm hm2
      clear hr hsl
      go_wp2
      go_ret
      exact ⟨rfl, rfl⟩
    · obtain ⟨j, rfl⟩ : ∃ j, k = j + 1 := ⟨k - 1, by omega⟩
      obtain rfl : v = (j : Int) := by omega
      have hj0 : (0 : Int) ≤ (j : Int) := by omega
      have hjs : j < s.size := by omega
      have hjsI : (j : Int) < (s.size : Int) := by omega
      have hj1 : (j : Int) < 10000 := by omega
      obtain ⟨c, hc⟩ : ∃ c, c = (s[j]'hjs).toNat := ⟨_, rfl⟩
      have hc1 : c < 256 := by rw [hc]; exact (s[j]'hjs).toNat_lt
      obtain ⟨P, hP⟩ : ∃ P, P = (j + 1) * c := ⟨_, rfl⟩
      have hP1 : P ≤ 2550000 := by rw [hP]; exact Nat.mul_le_mul (show j + 1 ≤ 10000 by omega) (show c ≤ 255 by omega)
      have hgd : (l.getD j 0).toNat = c := by
        rw [hc]
        congr 1
        rw [HL2.out]
        simp [List.getD, hjs]
        rfl
      have hnx : sumTo l (j + 1) = sumTo l j + P := by rw [sumTo, hgd, ← hP]
      have HNX := Lib.hid (show S + P + sumTo l j = sumTo l l.length by have := HT.out; rw [hnx] at this; omega)
      have hmul : ((j : Int) + 1) * (c : Int) = (P : Int) := by rw [hP]; push_cast; rfl
      have hmul2 : IntKind.i64.wrap ((P : Nat) : Int) = ((P : Nat) : Int) := by simp [IntKind.wrap, IntKind.bits, IntKind.signed]; omega
      have hS1 : S ≤ 10000 * 2550000 := by omega
      have hc2 := hc.symm
      have hc255 : c ≤ 255 := by omega
      clear hv h0 hgd hnx hP hc hsl hc1
      go_wp2
      go_round
      case rel => exact ⟨j, S + P, _, by omega, by omega, rfl, by go_num, HNX.out⟩
      case measure => simp [intOf]
end Go.Proofs.YtbcfcjecobihnaaDoor
