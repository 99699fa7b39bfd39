/- ferryhythesame.Ints: whether two slices of ints hold the same numbers. -/
import Derived.Test.YtpfpaheafpibiaaDoorRows
import Derived.Test.YtpfpaheafpibiaaDoorBase
namespace Go.Proofs.YtpfpaheafpibiaaDoor
open Go.RowKit

theorem take_eq_succ {xs ys : List Int} {k : Nat} {x : Int} (h : xs.take k = ys.take k) (hx : xs[k]? = some x) (hy : ys[k]? = some x) : xs.take (k + 1) = ys.take (k + 1) := by
  rw [List.take_add_one, List.take_add_one, h, hx, hy]

set_option maxHeartbeats 400000 in
theorem ints_any (ao bo : Option Addr) (ac bc na nb B B' : Nat) (xs ys : List Int) (r : Bool) (w : World) (hA : IntSl B w ao xs) (hB : IntSl B' w bo ys) (hna : na = xs.length) (hnb : nb = ys.length) (hal : xs.length ≤ 9223372036854775807) (hr : r = decide (xs = ys)) :
    Calls Tryd.prog 9 #[.slice ao na ac, .slice bo nb bc] w fun e w' => e = .returned (.bool r) ∧ ∃ n, w' = w.drewN n := by
  subst hna hnb
  have HA := Lib.hid hA; clear hA
  have HB := Lib.hid hB; clear hB
  have HR := Lib.hid hr; clear hr
  by_cases hlen : xs.length = ys.length
  · have hne : ((xs.length : Int) != (ys.length : Int)) = false := by simp [hlen]
    have Hlen := Lib.hid hlen; clear hlen
    go_enter Tryd.func9, Tryd.ntmps9
    go_wp2
    go_loopw [5] (fun i wr => ∃ k : Nat, k ≤ xs.length ∧ i = .int .i64 k ∧ Hid (xs.take k = ys.take k) ∧ ∃ n, wr = w.drewN n) (fun i _ => xs.length - (intOf i).toNat)
    case atStart => exact ⟨0, Nat.zero_le _, rfl, rfl, 0, rfl⟩
    case round =>
      obtain ⟨k, hk, rfl, htake, n, rfl⟩ := hrel
      by_cases hlt : k < xs.length
      · have hlt2 : k < ys.length := Hlen.out ▸ hlt
        obtain ⟨x, hx⟩ : ∃ x, xs[k]? = some x := ⟨_, List.getElem?_eq_getElem hlt⟩
        obtain ⟨y, hy⟩ : ∃ y, ys[k]? = some y := ⟨_, List.getElem?_eq_getElem hlt2⟩
        obtain ⟨b, off, rfl, _, c1⟩ := HA.out k x hx
        obtain ⟨b', off', rfl, _, c2⟩ := HB.out k y hy
        have hdc : ((k : Int) < (xs.length : Int)) := by omega
        have hdc2 : ((k : Int) < (ys.length : Int)) := by omega
        have Hx := Lib.hid hx; clear hx
        have Hy := Lib.hid hy; clear hy
        go_wp2
        by_cases hxy : x = y
        · subst hxy
          have hb : (x != x) = false := by simp
          go_quiet (fail)
          go_wp2
          go_roundw
          case rel => exact ⟨k + 1, by omega, by go_num, take_eq_succ htake.out Hx.out Hy.out, (by first | exact ⟨_, rfl⟩ | exact drewN_two w n _)⟩
          case measure => simp [intOf]; omega
        · have hb : (x != y) = true := by simp [hxy]
          go_quiet (fail)
          go_wp2
          go_ret
          refine ⟨ret_bool ?_, (by first | exact ⟨_, rfl⟩ | exact drewN_two w n _)⟩
          rw [HR.out]
          symm
          simp only [decide_eq_false_iff_not]
          intro h
          have h1 := Hx.out
          rw [h, Hy.out] at h1
          exact hxy (by simpa using h1.symm)
      · go_wp2
        go_ret
        refine ⟨ret_bool ?_, _, rfl⟩
        rw [HR.out]
        symm
        simp only [decide_eq_true_eq]
        have h1 := htake.out
        have h2 := Hlen.out
        rw [List.take_of_length_le (by omega), List.take_of_length_le (by omega)] at h1
        exact h1
  · have hne : ((xs.length : Int) != (ys.length : Int)) = true := by simp; omega
    go_enter Tryd.func9, Tryd.ntmps9
    go_wp2
    go_ret
    refine ⟨ret_bool ?_, 0, rfl⟩
    rw [HR.out]
    symm
    simp only [decide_eq_false_iff_not]
    intro h
    exact hlen (by rw [h])
end Go.Proofs.YtpfpaheafpibiaaDoor
