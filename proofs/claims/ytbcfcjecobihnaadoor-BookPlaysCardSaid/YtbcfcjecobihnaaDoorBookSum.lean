/- book.sum: the sum of a line. -/
import Derived.Test.YtbcfcjecobihnaaDoorBase
import Derived.Test.YtbcfcjecobihnaaDoorRows
import Derived.Lib.AppendStr
import Derived.Lib.UnsafeStr
import Derived.Lib.ConvBytes
namespace Go.Proofs.YtbcfcjecobihnaaDoor
open Go.RowKit Go.Lib
set_option linter.unusedVariables false
set_option maxRecDepth 100000

def sumTo (l : List UInt8) : Nat → Nat
  | 0 => 0
  | k + 1 => sumTo l k + (k + 1) * (l.getD k 0).toNat
def sumB (l : List UInt8) : Nat := sumTo l l.length % 9973
theorem sumTo_le (l : List UInt8) : ∀ k, k ≤ 10000 → sumTo l k ≤ k * 2550000
  | 0, _ => by simp [sumTo]
  | k + 1, hk => by
    have h1 := sumTo_le l k (by omega)
    have h2 : (l.getD k 0).toNat ≤ 255 := by have := (l.getD k 0).toNat_lt; omega
    have h3 : (k + 1) * (l.getD k 0).toNat ≤ 10000 * 255 := Nat.mul_le_mul (by omega) h2
    unfold sumTo
    omega
set_option maxHeartbeats 1000000 in
theorem sum_any (l : List UInt8) (w : World) (hl : l.length ≤ 10000) : Calls Tryd.prog 41 #[.string ⟨l.toArray⟩] w fun e w' => e = .returned (.int .i64 (sumB l : Nat)) ∧ Below w.heap.size w w' := by
  obtain ⟨W, hW⟩ : ∃ W, W = Lib.bytesWorld w 5 ⟨l.toArray⟩ := ⟨_, rfl⟩
  obtain ⟨cap, hcap⟩ : ∃ c, c = grownCap w l.length 0 5 := ⟨_, rfl⟩
  obtain ⟨g, hg⟩ : ∃ g, g = w.heap.size := ⟨_, rfl⟩
  have hconv : (convert 9 48 (.string ⟨l.toArray⟩)).run Tryd.prog w = .ok (.slice (some ⟨g, 0, none⟩) l.length cap) W := by
    rw [Lib.run_convert_string_bytes w 9 48 5 ⟨l.toArray⟩ Tryd.underlying9 Tryd.underlying48 Tryd.underlying5, hW, hcap, hg]
    rfl
  have hcell : ∀ j, j < l.length → W.cell? ⟨g, j, none⟩ = some (.int .u8 ((l.getD j 0).toNat : Nat)) := fun j hj => by
    rw [hW, hg, Lib.bytesWorld_cell w 5 ⟨l.toArray⟩ j hj]
  have hbel : Below w.heap.size w W := by
    rw [hW]
    exact ⟨rfl, rfl, rfl, by rw [Lib.bytesWorld_size]; omega, fun k hk => Lib.bytesWorld_at_old w 5 ⟨l.toArray⟩ k hk⟩
  have HCELL := Lib.hid hcell
  have HBEL := Lib.hid hbel
  have HL := Lib.hid hl
  clear hW hcap hg hcell hbel
  obtain ⟨R, hR⟩ : ∃ R, R = sumB l := ⟨_, rfl⟩
  rw [← hR]
  have HR := Lib.hid hR
  clear hR
  go_enter Tryd.func41, Tryd.ntmps41
  go_wp2
  go_loopw [3, 9] (fun nv iv wr => ∃ k : Nat, k ≤ l.length ∧ nv = .int .i64 (sumTo l k : Nat) ∧ iv = .int .i64 k ∧ wr = W) (fun _ iv _ => l.length - (intOf iv).toNat)
  case atStart => exact ⟨0, Nat.zero_le _, rfl, rfl, rfl⟩
  case round =>
    obtain ⟨k, hk, rfl, rfl, rfl⟩ := hrel
    clear hconv
    have hsl := sumTo_le l k (by omega)
    obtain ⟨S, hS⟩ : ∃ S, S = sumTo l k := ⟨_, rfl⟩
    rw [← hS] at hsl ⊢
    by_cases hlt : k < l.length
    · have hki : (k : Int) < (l.length : Int) := by omega
      have hk0 : (0 : Int) ≤ (k : Int) := by omega
      have c0 := HCELL.out k hlt
      obtain ⟨c, hc⟩ : ∃ c, c = (l.getD k 0).toNat := ⟨_, rfl⟩
      have hc255 : c ≤ 255 := by rw [hc]; have := (l.getD k 0).toNat_lt; omega
      rw [← hc] at c0
      obtain ⟨P, hP⟩ : ∃ P, P = (k + 1) * c := ⟨_, rfl⟩
      have hP1 : P ≤ 2550000 := by rw [hP]; exact Nat.mul_le_mul (show k + 1 ≤ 10000 by have := HL.out; omega) hc255
      have hmul : ((k : Int) + 1) * (c : Int) = (P : Int) := by rw [hP]; push_cast; rfl
      have hmul2 : IntKind.i64.wrap ((P : Nat) : Int) = ((P : Nat) : Int) := by simp [IntKind.wrap, IntKind.bits, IntKind.signed]; omega
      have hnx : sumTo l (k + 1) = S + P := by rw [sumTo, ← hS, ← hc, ← hP]
      have HNX := Lib.hid hnx
      clear hnx hP hc hS
      go_wp2
      go_roundw
      case rel => exact ⟨k + 1, by omega, by rw [HNX.out]; go_num, by go_num, by first | rfl | trivial⟩
      case measure => simp [intOf]; omega
    · have e : k = l.length := by omega
      have hd : decide ((k : Int) < (l.length : Int)) = false := decide_eq_false (by omega)
      have hd2 : decide (k < l.length) = false := decide_eq_false hlt
      have hm : Int.tmod (S : Int) 9973 = ((S % 9973 : Nat) : Int) := by rw [Int.tmod_eq_emod_of_nonneg (by omega)]; rfl
      have hm2 : IntKind.i64.wrap ((S % 9973 : Nat) : Int) = ((S % 9973 : Nat) : Int) := by simp [IntKind.wrap, IntKind.bits, IntKind.signed]; omega
      have hr : R = S % 9973 := by rw [HR.out]; unfold sumB; rw [hS, ← e]
      rw [← hr] at hm hm2
      clear hlt hr hS
      go_wp2
      go_ret
      exact ⟨rfl, HBEL.out⟩
end Go.Proofs.YtbcfcjecobihnaaDoor
