/- vector.Check. -/
import Derived.Test.YtnmddgjgmdegoaaDoorLnk
import Derived.Test.YtnmddgjgmdegoaaDoorStp
import Derived.Test.YtnmddgjgmdegoaaDoorWithin
import Derived.Test.YtnmddgjgmdegoaaDoorAll
namespace Go.Proofs.YtnmddgjgmdegoaaDoor
open Go.RowKit
set_option linter.unusedVariables false

set_option maxHeartbeats 1000000 in
theorem vCheck_any (n : Int) (ao : Option Addr) (len ac B : Nat) (L : List Lnk) (w : World) (hA : RowSl B w ao 3 (L.map lnkC)) (hlen : len = L.length) (hl : L.length ≤ 9223372036854775807) (hB : B ≤ w.heap.size) :
    Calls Tryd.prog 36 #[.int .i64 n, .slice ao len ac] w fun e w' => e = .returned (errV (vCode n L)) ∧ Below w.heap.size w w' := by
  subst hlen
  have HA := Lib.hid hA; clear hA
  by_cases h8 : 1 ≤ n ∧ n ≤ 8
  · by_cases h32 : L.length ≤ 32
    · obtain ⟨c, hc⟩ : ∃ c, c = lsBad n L := ⟨_, rfl⟩
      have hvc : vCode n L = c := by unfold vCode; rw [if_neg (by omega), if_neg (by omega), hc]
      rw [hvc]
      have HC := Lib.hid hc; clear hc hvc
      obtain ⟨v, hv⟩ : ∃ v, v = errV c := ⟨_, rfl⟩
      rw [← hv]
      have HV := Lib.hid hv; clear hv
      have hd2 : decide ((32 : Int) < (L.length : Int)) = false := decide_eq_false (by omega)
      obtain ⟨m, rfl⟩ := Int.eq_ofNat_of_zero_le (show 0 ≤ n by omega)
      obtain ⟨h1, h2⟩ := h8
      go_enter Tryd.func36, Tryd.ntmps36
      go_wp2_with fail
      refine (within_yes _ _ _ _ h1 h2).mono ?_
      rintro e w1 ⟨rfl, rfl⟩
      go_wp2
      go_loopw [17] (fun i wr => ∃ k : Nat, k ≤ L.length ∧ i = .int .i64 k ∧ Hid (lsBad m (L.drop k) = c) ∧ Below w.heap.size w wr) (fun i _ => L.length - (intOf i).toNat)
      case atStart => exact ⟨0, Nat.zero_le _, rfl, by rw [HC.out]; rfl, Below.refl _ w⟩
      case round =>
        obtain ⟨k, hk, rfl, hcode, hbel⟩ := hrel
        have HB := Lib.hid hbel; clear hbel
        by_cases hlt : k < L.length
        · obtain ⟨x, hx⟩ : ∃ x, L[k]? = some x := ⟨_, List.getElem?_eq_getElem hlt⟩
          obtain ⟨b, off, rfl, hbb, c0, c1, c2⟩ := (HA.out.below (HB.out.mono hB)).lnk hx
          have hst := hcode.out
          rw [lsBad_step hx] at hst
          obtain ⟨xa, xb, xc⟩ := x
          simp only at c0 c1 c2
          have HX := Lib.hid hx; clear hx
          have hnew : ∀ (W : World) (g : Nat) (e : TypeId), g = W.heap.size → IntSl (g + 1) (W.alloc (.cells #[.int .i64 xa, .int .i64 xb] e)) (some ⟨g, 0, none⟩) [xa, xb] := fun W g e h => by subst h; exact intSl_new W #[.int .i64 xa, .int .i64 xb] e [xa, xb] rfl
          have hbA : ∀ (W : World) (o1 o2 : Obj), Below w.heap.size w W → Below w.heap.size w ((W.alloc o1).alloc o2) := fun W o1 o2 h => (h.alloc h.size o1).alloc (by have := h.size; simp; omega) o2
          have HNW := Lib.hid hnew; clear hnew
          have HBA := Lib.hid hbA; clear hbA
          by_cases hab : (0 ≤ xa ∧ xa ≤ (m : Int) - 1) ∧ (0 ≤ xb ∧ xb ≤ (m : Int) - 1)
          · by_cases hcc : 1 ≤ xc ∧ xc ≤ 20
            · have HAB := Lib.hid hab; clear hab
              have HCC := Lib.hid hcc; clear hcc
              have HST := Lib.hid hst; clear hst
              by_cases he : xa = xb
              · subst he
                have hve : v = .iface 64 (.int .i64 3) := by
                  have h := HST.out
                  have hq : lBad m (xa, xa, xc) = 3 := by unfold lBad; rw [if_neg (Decidable.not_not.2 HAB.out), if_neg (Decidable.not_not.2 HCC.out), if_pos rfl]
                  rw [hq, if_neg (by decide)] at h
                  rw [HV.out, ← h, errV_not (by decide)]
                have HVE := Lib.hid hve; clear hve
                have hbe : (xa == xa) = true := by simp
                go_wp2_with (first
                  | (go_at_call 43; refine (all_any _ _ _ _ [xa, xa] 0 ((m : Int) - 1) true _ (HNW.out _ _ _ (by simp)) rfl (by simp) (by have := HAB.out; simp; omega)).mono ?_; rintro e w' ⟨rfl, rfl⟩)
                  | (go_at_call 28; refine (within_yes _ _ _ _ HCC.out.1 HCC.out.2).mono ?_; rintro e w' ⟨rfl, rfl⟩))
                go_ret
                exact ⟨by first | exact HVE.out.symm | exact congrArg _ HVE.out.symm, HBA.out _ _ _ HB.out⟩
              · have hbe : (xa == xb) = false := by simp [he]
                have hst2 : lsBad m (L.drop (k + 1)) = c := by
                  have h := HST.out
                  rw [if_pos (lBad_zero.2 ⟨HAB.out.1, HAB.out.2, HCC.out, he⟩)] at h
                  exact h
                have HS2 := Lib.hid hst2; clear hst2
                have HE := Lib.hid he; clear he
                go_wp2_with (first
                  | (go_at_call 43; refine (all_any _ _ _ _ [xa, xb] 0 ((m : Int) - 1) true _ (HNW.out _ _ _ (by simp)) rfl (by simp) (by have := HAB.out; simp; omega)).mono ?_; rintro e w' ⟨rfl, rfl⟩)
                  | (go_at_call 28; refine (within_yes _ _ _ _ HCC.out.1 HCC.out.2).mono ?_; rintro e w' ⟨rfl, rfl⟩))
                go_roundw
                case rel => exact ⟨k + 1, by omega, by go_num, HS2.out, HBA.out _ _ _ HB.out⟩
                case measure => simp [intOf]; omega
            · have hve : v = .iface 64 (.int .i64 1) := by
                have hq : lBad m (xa, xb, xc) = 1 := by unfold lBad; rw [if_neg (Decidable.not_not.2 hab), if_pos hcc]
                rw [hq, if_neg (by decide)] at hst
                rw [HV.out, ← hst, errV_not (by decide)]
              have HVE := Lib.hid hve; clear hve hst
              have HAB := Lib.hid hab; clear hab
              have HCC := Lib.hid hcc; clear hcc
              go_wp2_with (first
                | (go_at_call 43; refine (all_any _ _ _ _ [xa, xb] 0 ((m : Int) - 1) true _ (HNW.out _ _ _ (by simp)) rfl (by simp) (by have := HAB.out; simp; omega)).mono ?_; rintro e w' ⟨rfl, rfl⟩)
                | (go_at_call 28; refine (within_no _ _ _ _ HCC.out).mono ?_; rintro e w' ⟨rfl, rfl⟩))
              go_ret
              exact ⟨by first | exact HVE.out.symm | exact congrArg _ HVE.out.symm, HBA.out _ _ _ HB.out⟩
          · have hve : v = .iface 64 (.int .i64 1) := by
              have hq : lBad m (xa, xb, xc) = 1 := by unfold lBad; rw [if_pos hab]
              rw [hq, if_neg (by decide)] at hst
              rw [HV.out, ← hst, errV_not (by decide)]
            have HVE := Lib.hid hve; clear hve hst
            have HAB := Lib.hid hab; clear hab
            go_wp2_with (go_at_call 43; refine (all_any _ _ _ _ [xa, xb] 0 ((m : Int) - 1) false _ (HNW.out _ _ _ (by simp)) rfl (by simp) (by have := HAB.out; simp; omega)).mono ?_; rintro e w' ⟨rfl, rfl⟩)
            go_ret
            exact ⟨by first | exact HVE.out.symm | exact congrArg _ HVE.out.symm, HBA.out _ _ _ HB.out⟩
        · have hc0 : c = 0 := by
            have := hcode.out
            rw [List.drop_of_length_le (by omega)] at this
            exact this.symm
          have hve : v = .nilIface := by rw [HV.out, hc0]; rfl
          have HVE := Lib.hid hve; clear hve
          have HC0 := Lib.hid hc0; clear hc0
          go_wp2
          go_ret
          exact ⟨by first | exact HVE.out.symm | exact congrArg _ HVE.out.symm, HB.out⟩
    · have hvc : vCode n L = 4 := by unfold vCode; rw [if_neg (by omega), if_pos (by omega)]
      rw [hvc, errV_not (by decide)]
      have hd2 : decide ((32 : Int) < (L.length : Int)) = true := decide_eq_true (by omega)
      obtain ⟨h1, h2⟩ := h8
      clear hvc
      go_enter Tryd.func36, Tryd.ntmps36
      go_wp2_with fail
      refine (within_yes _ _ _ _ h1 h2).mono ?_
      rintro e w1 ⟨rfl, rfl⟩
      go_wp2
      go_ret
      exact ⟨rfl, Below.refl _ w⟩
  · have hvc : vCode n L = 1 := by unfold vCode; rw [if_pos h8]
    rw [hvc, errV_not (by decide)]
    have H8 := Lib.hid h8; clear h8 hvc
    go_enter Tryd.func36, Tryd.ntmps36
    go_wp2_with fail
    refine (within_no _ _ _ _ H8.out).mono ?_
    rintro e w1 ⟨rfl, rfl⟩
    go_wp2
    go_ret
    exact ⟨rfl, Below.refl _ w⟩
end Go.Proofs.YtnmddgjgmdegoaaDoor
