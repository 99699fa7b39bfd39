/- ferryhytheref3.Links: what is wrong with points, and links. -/
import Derived.Test.YtnmddgjgmdegoaaDoorLnk
import Derived.Test.YtnmddgjgmdegoaaDoorInH
namespace Go.Proofs.YtnmddgjgmdegoaaDoor
open Go.RowKit
set_option linter.unusedVariables false

set_option maxHeartbeats 2000000 in
theorem linksRef_any (n : Int) (ao : Option Addr) (len ac B : Nat) (L : List Lnk) (w : World) (hA : RowSl B w ao 3 (L.map lnkC)) (hlen : len = L.length) (hl : L.length ≤ 9223372036854775807) (hB : B ≤ w.heap.size) :
    Calls Tryd.prog 22 #[.int .i64 n, .slice ao len ac] w fun e w' => e = .returned (.int .i64 (vCode n L)) ∧ Below w.heap.size w w' := by
  subst hlen
  have HA := Lib.hid hA; clear hA
  by_cases h8 : 1 ≤ n ∧ n ≤ 8
  · by_cases h32 : L.length ≤ 32
    · obtain ⟨c, hc⟩ : ∃ c, c = lsBad n L := ⟨_, rfl⟩
      have hvc : vCode n L = c := by unfold vCode; rw [if_neg (by omega), if_neg (by omega), hc]
      rw [hvc]
      have HC := Lib.hid hc; clear hc hvc
      have hd2 : decide ((32 : Int) < (L.length : Int)) = false := decide_eq_false (by omega)
      obtain ⟨m, rfl⟩ := Int.eq_ofNat_of_zero_le (show 0 ≤ n by omega)
      obtain ⟨h1, h2⟩ := h8
      have hci : Tryd.prog.cellsOf 3 = 1 := by kernel_rfl
      go_enter Tryd.func22, Tryd.ntmps22
      go_wp2_with fail
      refine (inH_yes _ _ _ _ h1 h2).mono ?_
      rintro e w' ⟨rfl, rfl⟩
      go_wp2
      clear hd2
      go_loopw [5] (fun i wr => ∃ k : Nat, k ≤ L.length ∧ i = .int .i64 k ∧ Hid (lsBad m (L.drop k) = c) ∧ Below w.heap.size w wr) (fun i _ => L.length - (intOf i).toNat)
      case atStart => exact ⟨0, Nat.zero_le _, rfl, by rw [HC.out]; rfl, Below.refl _ w⟩
      case round =>
        obtain ⟨k, hk, rfl, hcode, hbel⟩ := hrel
        have HB := Lib.hid hbel; clear hbel
        by_cases hlt : k < L.length
        · obtain ⟨x, hx⟩ : ∃ x, L[k]? = some x := ⟨_, List.getElem?_eq_getElem hlt⟩
          obtain ⟨b, off, rfl, hbb, c0, c1, c2⟩ := (HA.out.below (HB.out.mono hB)).lnk hx
          have hst := hcode.out
          rw [lsBad_step hx] at hst
          obtain ⟨xa, xb, xc⟩ := x
          simp only at c0 c1 c2
          clear hx
          have hki : (k : Int) < (L.length : Int) := by omega
          have hk0 : (0 : Int) ≤ (k : Int) := by omega
          by_cases ha : 0 ≤ xa ∧ xa ≤ (m : Int) - 1
          · by_cases hb : 0 ≤ xb ∧ xb ≤ (m : Int) - 1
            · by_cases hcc : 1 ≤ xc ∧ xc ≤ 20
              · by_cases he : xa = xb
                · subst he
                  have hc1 : c = 3 := by rw [← hst]; unfold lBad; rw [if_neg (Decidable.not_not.2 ⟨ha, hb⟩), if_neg (Decidable.not_not.2 hcc), if_pos rfl]; rfl
                  have HC1 := Lib.hid hc1; clear hc1 hst
                  have hbe : (xa == xa) = true := by simp
                  go_wp2_with fail
                  refine (inH_yes xa 0 ((m : Int) - 1) _ ha.1 ha.2).mono ?_
                  rintro e w' ⟨rfl, rfl⟩
                  go_wp2_with fail
                  refine (inH_yes xa 0 ((m : Int) - 1) _ ha.1 ha.2).mono ?_
                  rintro e w' ⟨rfl, rfl⟩
                  go_wp2_with fail
                  refine (inH_yes xc 1 20 _ hcc.1 hcc.2).mono ?_
                  rintro e w' ⟨rfl, rfl⟩
                  go_wp2_with fail
                  go_quiet (fail)
                  have HB2 := Lib.hid (HB.out.trans (below_drewN w.heap.size wr nq))
                  generalize wr.drewN nq = wn at *
                  go_wp2
                  go_ret
                  exact ⟨ret_int HC1.out.symm, HB2.out⟩
                · have hbe : (xa == xb) = false := by simp [he]
                  have hst2 : lsBad m (L.drop (k + 1)) = c := by
                    rw [if_pos (lBad_zero.2 ⟨ha, hb, hcc, he⟩)] at hst
                    exact hst
                  have HS2 := Lib.hid hst2; clear hst2 hst
                  clear he
                  go_wp2_with fail
                  refine (inH_yes xa 0 ((m : Int) - 1) _ ha.1 ha.2).mono ?_
                  rintro e w' ⟨rfl, rfl⟩
                  go_wp2_with fail
                  refine (inH_yes xb 0 ((m : Int) - 1) _ hb.1 hb.2).mono ?_
                  rintro e w' ⟨rfl, rfl⟩
                  go_wp2_with fail
                  refine (inH_yes xc 1 20 _ hcc.1 hcc.2).mono ?_
                  rintro e w' ⟨rfl, rfl⟩
                  go_wp2_with fail
                  go_quiet (fail)
                  have HB2 := Lib.hid (HB.out.trans (below_drewN w.heap.size wr nq))
                  clear c0 c1 c2
                  generalize wr.drewN nq = wn at *
                  go_wp2
                  go_roundw
                  case rel => exact ⟨k + 1, by omega, by go_num, HS2.out, HB2.out⟩
                  case measure => simp [intOf]; omega
              · have hc1 : c = 1 := by rw [← hst]; unfold lBad; rw [if_neg (Decidable.not_not.2 ⟨ha, hb⟩), if_pos hcc]; rfl
                have HC1 := Lib.hid hc1; clear hc1 hst
                have HCC := Lib.hid hcc; clear hcc
                go_wp2_with fail
                refine (inH_yes xa 0 ((m : Int) - 1) _ ha.1 ha.2).mono ?_
                rintro e w' ⟨rfl, rfl⟩
                go_wp2_with fail
                refine (inH_yes xb 0 ((m : Int) - 1) _ hb.1 hb.2).mono ?_
                rintro e w' ⟨rfl, rfl⟩
                go_wp2_with fail
                refine (inH_no xc 1 20 _ HCC.out).mono ?_
                rintro e w' ⟨rfl, rfl⟩
                go_wp2
                go_ret
                exact ⟨ret_int HC1.out.symm, HB.out⟩
            · have hc1 : c = 1 := by rw [← hst]; unfold lBad; rw [if_pos (fun h => hb h.2)]; rfl
              have HC1 := Lib.hid hc1; clear hc1 hst
              have HN := Lib.hid hb; clear hb
              go_wp2_with fail
              refine (inH_yes xa 0 ((m : Int) - 1) _ ha.1 ha.2).mono ?_
              rintro e w' ⟨rfl, rfl⟩
              go_wp2_with fail
              refine (inH_no xb 0 ((m : Int) - 1) _ HN.out).mono ?_
              rintro e w' ⟨rfl, rfl⟩
              go_wp2
              go_ret
              exact ⟨ret_int HC1.out.symm, HB.out⟩
          · have hc1 : c = 1 := by rw [← hst]; unfold lBad; rw [if_pos (fun h => ha h.1)]; rfl
            have HC1 := Lib.hid hc1; clear hc1 hst
            have HN := Lib.hid ha; clear ha
            go_wp2_with fail
            refine (inH_no xa 0 ((m : Int) - 1) _ HN.out).mono ?_
            rintro e w' ⟨rfl, rfl⟩
            go_wp2
            go_ret
            exact ⟨ret_int HC1.out.symm, HB.out⟩
        · have hc0 : c = 0 := by
            have := hcode.out
            rw [List.drop_of_length_le (by omega)] at this
            exact this.symm
          have HC0 := Lib.hid hc0; clear hc0
          go_wp2
          go_ret
          exact ⟨ret_int HC0.out.symm, HB.out⟩
    · have hvc : vCode n L = 4 := by unfold vCode; rw [if_neg (by omega), if_pos (by omega)]
      rw [hvc]
      have hd2 : decide ((32 : Int) < (L.length : Int)) = true := decide_eq_true (by omega)
      obtain ⟨h1, h2⟩ := h8
      clear hvc
      go_enter Tryd.func22, Tryd.ntmps22
      go_wp2_with fail
      refine (inH_yes _ _ _ _ h1 h2).mono ?_
      rintro e w' ⟨rfl, rfl⟩
      go_wp2
      go_ret
      exact ⟨rfl, Below.refl _ w⟩
  · have hvc : vCode n L = 1 := by unfold vCode; rw [if_pos h8]
    rw [hvc]
    have H8 := Lib.hid h8; clear h8 hvc
    go_enter Tryd.func22, Tryd.ntmps22
    go_wp2_with fail
    refine (inH_no _ _ _ _ H8.out).mono ?_
    rintro e w' ⟨rfl, rfl⟩
    go_wp2
    go_ret
    exact ⟨rfl, Below.refl _ w⟩
end Go.Proofs.YtnmddgjgmdegoaaDoor
