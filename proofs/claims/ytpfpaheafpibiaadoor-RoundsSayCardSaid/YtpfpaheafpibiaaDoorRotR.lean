/- slices.rotateCmpFunc at rounds.item: two rows side by side, exchanged. -/
import Derived.Test.YtpfpaheafpibiaaDoorSwapR
namespace Go.Proofs.YtpfpaheafpibiaaDoor
open Go.RowKit
set_option linter.unusedVariables false
set_option maxRecDepth 100000

set_option maxHeartbeats 2000000 in
theorem rotR_any (B g off N cap : Nat) (P U V R : List Itm) (a m b : Nat) (cv : Value) (F : List Ent) (w : World) (hX : (P ++ U ++ V ++ R).length = N) (hN : N ≤ 1000) (ha : a = P.length) (hm : m = P.length + U.length) (hb : b = m + V.length) (hU : 0 < U.length) (hV : 0 < V.length)
    (hsep : Sep B w (itN g off N cap (P ++ U ++ V ++ R) :: F)) :
    Calls Tryd.prog 35 #[.slice (some ⟨g, off, none⟩) N cap, .int .i64 a, .int .i64 m, .int .i64 b, cv] w fun e w' => e = .returned (.tuple #[]) ∧ Sep B w' (itN g off N cap (P ++ V ++ U ++ R) :: F) ∧ Below B w w' := by
  have hX2 : P.length + U.length + V.length + R.length = N := by rw [← hX]; simp only [List.length_append]
  have HS0 := Lib.hid hsep
  have hmN : m ≤ 1000 := by omega
  have hbN : b ≤ 1000 := by omega
  have haN : a ≤ 1000 := by omega
  have HM := Lib.hid hm
  have HX2 := Lib.hid hX2
  obtain ⟨u0, hu0⟩ : ∃ u0, u0 = U.length := ⟨_, rfl⟩
  obtain ⟨v0, hv0⟩ : ∃ v0, v0 = V.length := ⟨_, rfl⟩
  have huI : (m : Int) - (a : Int) = (u0 : Int) := by omega
  have hvI : (b : Int) - (m : Int) = (v0 : Int) := by omega
  have hu1 : u0 ≤ 1000 := by omega
  have hv1 : v0 ≤ 1000 := by omega
  have HU0 := Lib.hid hu0
  have HV0 := Lib.hid hv0
  have HUV := Lib.hid (And.intro hU hV)
  clear hsep hX hX2 ha hm hb hU hV hu0 hv0
  go_enter Tryd.func35, Tryd.ntmps35
  go_wp2
  clear huI hvI
  go_loopg [10, 11] (u0 + v0) (fun gk iv jv wr => ∃ (i j : Nat) (D1 U' V' D2 : List Itm), gk = i + j ∧ iv = .int .i64 i ∧ jv = .int .i64 j ∧ i = U'.length ∧ j = V'.length ∧ 0 < i ∧ 0 < j ∧ m = P.length + D1.length + i ∧ D1 ++ V' ++ U' ++ D2 = V ++ U ∧ Sep B wr (itN g off N cap (P ++ D1 ++ U' ++ V' ++ D2 ++ R) :: F) ∧ Below B w wr)
  case atStart =>
    refine ⟨u0, v0, [], U, V, [], rfl, rfl, rfl, HU0.out, HV0.out, by rw [HU0.out]; exact HUV.out.1, by rw [HV0.out]; exact HUV.out.2, by rw [HU0.out]; simpa using HM.out, by simp, ?_, Below.refl _ _⟩
    simpa using HS0.out
  case round =>
    obtain ⟨gi, hgi0⟩ : ∃ gi, gi = gk := ⟨_, rfl⟩
    obtain ⟨i, j, D1, U', V', D2, hgk, rfl, rfl, hi, hj, hi0, hj0, hmm, htg, hs, hbl⟩ := hrel
    have hlen : D1.length + V'.length + U'.length + D2.length = V.length + U.length := by
      have := congrArg List.length htg
      simpa [Nat.add_assoc] using this
    have hX2 := HX2.out
    obtain ⟨p, hp⟩ : ∃ p, p = P.length + D1.length := ⟨_, rfl⟩
    have hpI : (m : Int) - (i : Int) = (p : Int) := by omega
    have hpN : p ≤ 1000 := by omega
    have hiN : i ≤ 1000 := by omega
    have hjN : j ≤ 1000 := by omega
    have HP := Lib.hid hp
    have HI := Lib.hid hi
    have HJ := Lib.hid hj
    have HTG := Lib.hid htg
    have HS1 := Lib.hid hs
    have HB1 := Lib.hid hbl
    have HMM := Lib.hid hmm
    have HLEN := Lib.hid hlen
    clear hs hbl hi hj htg hp hmm hlen hX2 HS0
    by_cases hij : i = j
    · have hq : ((i : Int) != (j : Int)) = false := by simp [hij]
      have hc := swapR_any B g off N cap (P ++ D1) U' [] V' (D2 ++ R) p m i cv F wr (by have h1 := HX2.out; have h2 := HLEN.out; simp only [List.length_append, List.length_nil]; omega) hN (by rw [← HI.out, ← HJ.out, hij]) (by rw [HP.out, List.length_append]) (by rw [HMM.out, List.length_append, HI.out]; simp) HI.out (by simpa using HS1.out)
      have HC := Lib.hid hc
      clear hc hij
      go_wp2_with fail
      refine HC.out.mono ?_
      rintro e w2 ⟨rfl, hs, hb⟩
      have hs2 : Sep B w2 (itN g off N cap (P ++ V ++ U ++ R) :: F) := by
        have e1 : P ++ D1 ++ V' ++ [] ++ U' ++ (D2 ++ R) = P ++ V ++ U ++ R := by
          have := HTG.out
          rw [show P ++ D1 ++ V' ++ [] ++ U' ++ (D2 ++ R) = P ++ (D1 ++ V' ++ U' ++ D2) ++ R by simp, this]
          simp
        rw [← e1]; exact hs
      have HS2 := Lib.hid hs2
      have HB2 := Lib.hid (HB1.out.trans hb)
      clear hs hb hs2
      go_wp2
      go_end0
      exact ⟨rfl, HS2.out, HB2.out⟩
    · have hq : ((i : Int) != (j : Int)) = true := by simp; omega
      by_cases hlt : j < i
      · have hd : (j : Int) < (i : Int) := by omega
        obtain ⟨i2, hi2⟩ : ∃ i2, i2 = i - j := ⟨_, rfl⟩
        have hi2I : (i : Int) - (j : Int) = (i2 : Int) := by omega
        have hi2N : i2 ≤ 1000 := by omega
        obtain ⟨U1, hU1⟩ : ∃ U1, U1 = U'.take j := ⟨_, rfl⟩
        obtain ⟨U2, hU2⟩ : ∃ U2, U2 = U'.drop j := ⟨_, rfl⟩
        have hUU : U' = U1 ++ U2 := by rw [hU1, hU2, List.take_append_drop]
        have l1 : U1.length = j := by rw [hU1, List.length_take, ← HI.out]; omega
        have l2 : U2.length = i2 := by rw [hU2, List.length_drop, ← HI.out, hi2]
        have hs1 := HS1.out
        rw [hUU] at hs1
        have hc := swapR_any B g off N cap (P ++ D1) U1 U2 V' (D2 ++ R) p m j cv F wr (by
            have h1 := HX2.out; have h2 := HLEN.out
            rw [hUU] at h2
            simp only [List.length_append] at h2 ⊢; omega) hN (by rw [l1, HJ.out]) (by rw [HP.out, List.length_append]) (by rw [HMM.out, List.length_append, l1, l2]; omega) l1.symm (by simpa using hs1)
        have HC := Lib.hid hc
        have HL1 := Lib.hid l1
        have HL2 := Lib.hid l2
        have HUU := Lib.hid hUU
        have HI2 := Lib.hid hi2
        clear hc l1 l2 hUU hU1 hU2 hs1 hi2 hij
        go_wp2_with fail
        refine HC.out.mono ?_
        rintro e w2 ⟨rfl, hs, hb⟩
        have hs2 : Sep B w2 (itN g off N cap (P ++ (D1 ++ V') ++ U2 ++ U1 ++ D2 ++ R) :: F) := by simpa using hs
        have HS2 := Lib.hid hs2
        have HB2 := Lib.hid (HB1.out.trans hb)
        clear hs hb hs2
        go_wp2
        go_roundg (i2 + j)
        case measure => have := HI2.out; omega
        case rel => exact ⟨i2, j, D1 ++ V', U2, U1, D2, rfl, by go_num, rfl, HL2.out.symm, HL1.out.symm, by have := HI2.out; omega, hj0, by rw [List.length_append, HMM.out, ← HJ.out]; have := HI2.out; omega, by rw [← HTG.out, HUU.out]; simp, HS2.out, HB2.out⟩
      · have hd : decide ((j : Int) < (i : Int)) = false := decide_eq_false (by omega)
        have hdN : decide (j < i) = false := decide_eq_false hlt
        obtain ⟨j2, hj2⟩ : ∃ j2, j2 = j - i := ⟨_, rfl⟩
        have hj2I : (j : Int) - (i : Int) = (j2 : Int) := by omega
        have hj2N : j2 ≤ 1000 := by omega
        obtain ⟨q, hqq⟩ : ∃ q, q = m + j2 := ⟨_, rfl⟩
        obtain ⟨q1, hq1⟩ : ∃ q1, q1 = m + j := ⟨_, rfl⟩
        have hq1I : (m : Int) + (j : Int) = (q1 : Int) := by omega
        have hq2I : (q1 : Int) - (i : Int) = (q : Int) := by omega
        have hq1N : q1 ≤ 3000 := by omega
        have hqN : q ≤ 3000 := by omega
        obtain ⟨V1, hV1⟩ : ∃ V1, V1 = V'.take j2 := ⟨_, rfl⟩
        obtain ⟨V2, hV2⟩ : ∃ V2, V2 = V'.drop j2 := ⟨_, rfl⟩
        have hVV : V' = V1 ++ V2 := by rw [hV1, hV2, List.take_append_drop]
        have l1 : V1.length = j2 := by rw [hV1, List.length_take, ← HJ.out]; omega
        have l2 : V2.length = i := by rw [hV2, List.length_drop, ← HJ.out]; omega
        have hs1 := HS1.out
        rw [hVV] at hs1
        have hc := swapR_any B g off N cap (P ++ D1) U' V1 V2 (D2 ++ R) p q i cv F wr (by
            have h1 := HX2.out; have h2 := HLEN.out
            rw [hVV] at h2
            simp only [List.length_append] at h2 ⊢; omega) hN (by rw [l2, HI.out]) (by rw [HP.out, List.length_append]) (by rw [hqq, HMM.out, List.length_append, l1, ← HI.out]) HI.out (by simpa using hs1)
        have HC := Lib.hid hc
        have HL1 := Lib.hid l1
        have HL2 := Lib.hid l2
        have HVV := Lib.hid hVV
        have HJ2 := Lib.hid hj2
        clear hc l1 l2 hVV hV1 hV2 hs1 hj2 hqq hq1
        go_wp2_with fail
        refine HC.out.mono ?_
        rintro e w2 ⟨rfl, hs, hb⟩
        have hs2 : Sep B w2 (itN g off N cap (P ++ D1 ++ V2 ++ V1 ++ (U' ++ D2) ++ R) :: F) := by simpa using hs
        have HS2 := Lib.hid hs2
        have HB2 := Lib.hid (HB1.out.trans hb)
        clear hs hb hs2
        go_wp2
        go_roundg (i + j2)
        case measure => have := HJ2.out; omega
        case rel => exact ⟨i, j2, D1, V2, V1, U' ++ D2, rfl, rfl, by go_num, HL2.out.symm, HL1.out.symm, hi0, by have := HJ2.out; omega, HMM.out, by rw [← HTG.out, HVV.out]; simp, HS2.out, HB2.out⟩
end Go.Proofs.YtpfpaheafpibiaaDoor
