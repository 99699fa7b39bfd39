/- rpf.Kids: who would go over a point. -/
import Derived.Test.YtnmddgjgmdegoaaDoorFromOk
import Derived.Test.YtnmddgjgmdegoaaDoorRpfLaws
import Derived.Test.YtnmddgjgmdegoaaDoorElem
namespace Go.Proofs.YtnmddgjgmdegoaaDoor
open Go.RowKit
set_option linter.unusedVariables false
set_option maxRecDepth 100000

def kCode (n : Int) (L : List Lnk) (o a : Int) : Int := if vCode n L = 0 then (if (0 ≤ o ∧ o ≤ n - 1) ∧ (0 ≤ a ∧ a ≤ n - 1) then 0 else 1) else vCode n L
theorem kCode_zero {n : Int} {L : List Lnk} {o a : Int} : kCode n L o a = 0 ↔ ∃ m p q : Nat, n = (m : Int) ∧ o = (p : Int) ∧ a = (q : Int) ∧ p < m ∧ q < m ∧ VOk m L := by
  unfold kCode
  constructor
  · intro h
    split at h
    · next hv =>
      obtain ⟨m, rfl, hk⟩ := vCode_zero.1 hv
      split at h
      · next ho =>
        obtain ⟨p, rfl⟩ := Int.eq_ofNat_of_zero_le ho.1.1
        obtain ⟨q, rfl⟩ := Int.eq_ofNat_of_zero_le ho.2.1
        exact ⟨m, p, q, rfl, rfl, rfl, by omega, by omega, hk⟩
      · omega
    · next hv => exact absurd h hv
  · rintro ⟨m, p, q, rfl, rfl, rfl, hp, hq, hv⟩
    rw [if_pos (vCode_nat.2 hv), if_pos (by omega)]
def kidI (n : Nat) (L : List Lnk) (o a k : Nat) : List Int := (kidL n L o a k).map fun (v : Nat) => (v : Int)
theorem kidI_zero (n : Nat) (L : List Lnk) (o a : Nat) : kidI n L o a 0 = [] := rfl
theorem kidI_yes {n : Nat} {L : List Lnk} {o a k : Nat} (h : kidB n L o a k = true) : kidI n L o a (k + 1) = kidI n L o a k ++ [(k : Int)] := by
  unfold kidI; rw [kidL_succ, if_pos h, List.map_append]; rfl
theorem kidI_no {n : Nat} {L : List Lnk} {o a k : Nat} (h : ¬ kidB n L o a k = true) : kidI n L o a (k + 1) = kidI n L o a k := by
  unfold kidI; rw [kidL_succ, if_neg h, List.append_nil]
theorem kidI_len (n : Nat) (L : List Lnk) (o a k : Nat) : (kidI n L o a k).length ≤ k := by
  unfold kidI; rw [List.length_map]; exact kidL_len n L o a k
theorem two_all {x y lo hi : Int} : (∀ z ∈ [x, y], lo ≤ z ∧ z ≤ hi) ↔ (lo ≤ x ∧ x ≤ hi) ∧ (lo ≤ y ∧ y ≤ hi) := by simp

set_option maxHeartbeats 1000000 in
theorem kids_err (n : Int) (ao : Option Addr) (len ac B : Nat) (L : List Lnk) (o a c : Int) (w : World) (hA : RowSl B w ao 3 (L.map lnkC)) (hlen : len = L.length) (hl : L.length ≤ 9223372036854775807) (hB : B ≤ w.heap.size) (hc : c = kCode n L o a) (h0 : ¬ c = 0) :
    Calls Tryd.prog 27 #[.int .i64 n, .slice ao len ac, .int .i64 o, .int .i64 a] w fun e w' => e = .returned (.tuple #[.slice none 0 0, .iface 64 (.int .i64 c)]) ∧ Below w.heap.size w w' := by
  subst hlen
  have HA := Lib.hid hA; clear hA
  unfold kCode at hc
  by_cases hv : vCode n L = 0
  · rw [if_pos hv] at hc
    obtain ⟨m, hm, hok⟩ := vCode_zero.1 hv
    have hm1 := hok.n1
    have hm8 := hok.n8
    clear hok
    subst hm
    by_cases ho : (0 ≤ o ∧ o ≤ (m : Int) - 1) ∧ (0 ≤ a ∧ a ≤ (m : Int) - 1)
    · rw [if_pos ho] at hc; exact absurd hc h0
    · rw [if_neg ho] at hc
      subst hc
      clear h0
      have HO := Lib.hid ho; clear ho
      have HV := Lib.hid hv; clear hv
      go_enter Tryd.func27, Tryd.ntmps27
      go_wp2_with fail
      refine (vCheck_any _ _ _ _ _ L _ HA.out rfl hl hB).mono ?_
      rintro e w1 ⟨rfl, hb⟩
      rw [HV.out, errV_zero]
      have HB := Lib.hid (hb.trans ((Below.refl _ w1).alloc hb.size (.cells #[.int .i64 o, .int .i64 a] 3))); clear hb
      go_wp2_with fail
      refine (all_any _ _ _ _ [o, a] 0 ((m : Int) - 1) false _ (intSl_new _ _ _ _ rfl) rfl (by simp) (decide_eq_false (fun h => HO.out (two_all.1 h))).symm).mono ?_
      rintro e w' ⟨rfl, rfl⟩
      go_wp2
      go_ret2
      exact ⟨rfl, HB.out⟩
  · rw [if_neg hv] at hc
    subst hc
    have HV := Lib.hid hv; clear hv h0
    go_enter Tryd.func27, Tryd.ntmps27
    go_wp2_with fail
    refine (vCheck_any _ _ _ _ _ L _ HA.out rfl hl hB).mono ?_
    rintro e w1 ⟨rfl, hb⟩
    rw [errV_not HV.out]
    have HB := Lib.hid hb; clear hb
    go_wp2
    go_ret2
    exact ⟨rfl, HB.out⟩
set_option maxHeartbeats 2000000 in
theorem kids_ok (n : Nat) (ao : Option Addr) (len ac B0 : Nat) (L : List Lnk) (o a : Nat) (w : World) (hA : RowSl B0 w ao 3 (L.map lnkC)) (hlen : len = L.length) (hB : B0 ≤ w.heap.size) (hok : VOk n L) (ho : o < n) (ha : a < n) :
    Calls Tryd.prog 27 #[.int .i64 n, .slice ao len ac, .int .i64 o, .int .i64 a] w fun e w' => ∃ v, e = .returned (.tuple #[v, .nilIface]) ∧ Sep w.heap.size w' [Ent.ints 3 v (kidI n L o a n)] ∧ Below w.heap.size w w' := by
  subst hlen
  have hn1 := hok.n1
  have hn8 := hok.n8
  have hl32 := hok.few
  have HA := Lib.hid hA; clear hA
  have HOK := Lib.hid hok; clear hok
  obtain ⟨g, hg⟩ : ∃ g, g = w.heap.size := ⟨_, rfl⟩
  have hBg : B0 ≤ g := by omega
  have HG := Lib.hid hg; clear hg
  have hoi0 : (0 : Int) ≤ (o : Int) := by omega
  have hoin : (o : Int) < (n : Int) := by omega
  have hall : ∀ z ∈ [(o : Int), (a : Int)], 0 ≤ z ∧ z ≤ (n : Int) - 1 := two_all.2 ⟨by omega, by omega⟩
  have HALL := Lib.hid hall; clear hall
  go_enter Tryd.func27, Tryd.ntmps27
  go_wp2_with fail
  refine (vCheck_any _ _ _ _ _ L _ HA.out rfl (by omega) hB).mono ?_
  rintro e w1 ⟨rfl, hb⟩
  rw [vCode_nat.2 HOK.out, errV_zero]
  have hb1 : Below g w w1 := by rw [HG.out]; exact hb
  have hg1 : g ≤ w1.heap.size := by have := hb1.size; rw [← HG.out] at this; exact this
  have HB2 := Lib.hid (hb1.alloc hg1 (.cells #[.int .i64 o, .int .i64 a] 3)); clear hb hb1
  go_wp2_with fail
  refine (all_any _ _ _ _ [(o : Int), (a : Int)] 0 ((n : Int) - 1) true _ (intSl_new _ _ _ _ rfl) rfl (by simp) (decide_eq_true HALL.out).symm).mono ?_
  rintro e w' ⟨rfl, rfl⟩
  have HS0 := Lib.hid ((Sep.nil g (w1.alloc (.cells #[.int .i64 o, .int .i64 a] 3))).intsNil 3)
  go_wp2
  go_loopg [11, 31] n (fun gk ov iv wr => ∃ (i : Nat) (a5 : Option Addr) (n5 c5 : Nat), gk + i = n ∧ ov = .slice a5 n5 c5 ∧ iv = .int .i64 i ∧ Sep g wr [Ent.ints 3 (.slice a5 n5 c5) (kidI n L o a i)] ∧ Below g w wr)
  case atStart => exact ⟨0, none, 0, 0, by omega, rfl, rfl, HS0.out, HB2.out⟩
  case round =>
    obtain ⟨gi, rfl⟩ : ∃ gi, gi = gk := ⟨_, rfl⟩
    obtain ⟨i, a5, n5, c5, hgi, rfl, rfl, hs, hb⟩ := hrel
    have HS3 := Lib.hid hs
    have HB3 := Lib.hid hb
    have hg3 : g ≤ wr.heap.size := by have := HB3.out.size; rw [← HG.out] at this; exact this
    clear hs hb HS0 HB2 hg1
    by_cases hlt : i < n
    · have hii : (i : Int) < (n : Int) := by omega
      have hi0 : (0 : Int) ≤ (i : Int) := by omega
      go_wp2_with fail
      refine (from_ok n _ _ _ B0 L i _ (HA.out.below (HB3.out.mono hBg)) rfl (Nat.le_trans hBg hg3) HOK.out hlt).mono ?_
      rintro e w4 ⟨vf, vh, hf, rfl, hhop, hs, hb⟩
      obtain ⟨ah, ch, rfl, -, -⟩ := hs.intsShape (A := [_]) (C := [])
      rw [arr_len] at hs ⊢
      obtain ⟨gh, oh, rfl, -, h0, -, -⟩ := arrI_at (A := [_]) (C := []) hs ho
      have hof : hf o = byOf n L o i := hopOf_of (hhop o ho)
      rw [hof] at h0
      obtain ⟨u, hu⟩ : ∃ u, u = byOf n L o i := ⟨_, rfl⟩
      rw [← hu] at h0
      have HS4 := Lib.hid (HS3.out.kept hb)
      have HB4 := Lib.hid (HB3.out.trans (hb.mono hg3))
      have hg4 : g ≤ w4.heap.size := Nat.le_trans hg3 hb.size
      have hll := kidI_len n L o a i
      clear hs hb hhop hof HS3 HB3 hg3
      by_cases hio : i = o
      · have hq : ((i : Int) != (o : Int)) = false := by simp [hio]
        have hnx := kidI_no (n := n) (L := L) (o := o) (a := a) (k := i) (by unfold kidB; simp [hio])
        have HNX := Lib.hid hnx
        clear hnx hu hio hll
        go_wp2
        go_roundg (gi - 1)
        case measure => omega
        case rel => exact ⟨i + 1, _, _, _, by omega, rfl, by go_num, by rw [HNX.out]; exact HS4.out, HB4.out⟩
      · have hq : ((i : Int) != (o : Int)) = true := by simp; omega
        by_cases hua : u = (a : Int)
        · have hq2 : (u == (a : Int)) = true := by simp [hua]
          have hnx := kidI_yes (n := n) (L := L) (o := o) (a := a) (k := i) (by unfold kidB; rw [← hu]; simp [hio, hua])
          have HNX := Lib.hid hnx
          clear hnx hu hio hua
          go_wp2_with (at_builtin; refine wpList_append_int (A := []) rfl (.tmp 53) (.tmp 55) rfl elemInt8 rfl HS4.out hg4 rfl (by omega) ?_)
          intro v6 w6 hs hb
          obtain ⟨a6, n6, c6, rfl⟩ : ∃ b n c, v6 = .slice b n c := by
            obtain ⟨b, c, h, -⟩ := Sep.intsShape (A := []) (C := []) hs
            exact ⟨b, _, c, h⟩
          rw [← HNX.out] at hs
          have HS6 := Lib.hid hs
          have HB6 := Lib.hid (HB4.out.trans hb)
          clear hs hb HS4 HB4 hg4 hll
          go_wp2
          go_roundg (gi - 1)
          case measure => omega
          case rel => exact ⟨i + 1, _, _, _, by omega, rfl, by go_num, HS6.out, HB6.out⟩
        · have hq2 : (u == (a : Int)) = false := by simp [hua]
          have hnx := kidI_no (n := n) (L := L) (o := o) (a := a) (k := i) (by unfold kidB; rw [← hu]; simp [hua])
          have HNX := Lib.hid hnx
          clear hnx hu hio hua hll
          go_wp2
          go_roundg (gi - 1)
          case measure => omega
          case rel => exact ⟨i + 1, _, _, _, by omega, rfl, by go_num, by rw [HNX.out]; exact HS4.out, HB4.out⟩
    · have hii : decide ((i : Int) < (n : Int)) = false := decide_eq_false (by omega)
      have hin : i = n := by omega
      have hs9 := HS3.out
      rw [hin] at hs9
      have HS9 := Lib.hid hs9
      clear hs9 hin HS3
      go_wp2
      go_ret2
      have hs10 := HS9.out
      have hb10 := HB3.out
      rw [HG.out] at hs10 hb10
      exact ⟨_, rfl, hs10, hb10⟩
end Go.Proofs.YtnmddgjgmdegoaaDoor
