/- ferryhytheref3.Cost. -/
import Derived.Test.YtnmddgjgmdegoaaDoorRows
import Derived.Test.YtnmddgjgmdegoaaDoorHop
import Derived.Test.YtnmddgjgmdegoaaDoorWithin
namespace Go.Proofs.YtnmddgjgmdegoaaDoor
open Go.RowKit
set_option linter.unusedVariables false

set_option maxHeartbeats 2000000 in
theorem cost_any (ao : Option Addr) (len ac B : Nat) (L : List Lnk) (a b : Int) (w : World) (hA : RowSl B w ao 3 (L.map lnkC)) (hlen : len = L.length) (hl : L.length ≤ 1000000) :
    Calls Tryd.prog 35 #[.slice ao len ac, .int .i64 a, .int .i64 b] w fun e w' => e = .returned (.int .i64 (cstI a b L 1000)) ∧ w = w' := by
  subst hlen
  have HA := Lib.hid hA; clear hA
  obtain ⟨c, hc⟩ : ∃ c, c = cstI a b L 1000 := ⟨_, rfl⟩
  rw [← hc]
  have HC := Lib.hid hc; clear hc
  have hci : Tryd.prog.cellsOf 3 = 1 := by kernel_rfl
  go_enter Tryd.func35, Tryd.ntmps35
  go_wp2
  go_loop [7, 8] (fun bv i => ∃ (k : Nat) (best : Int), k ≤ L.length ∧ i = .int .i64 k ∧ bv = .int .i64 best ∧ Hid (cstI a b (L.drop k) best = c)) (fun _ i => L.length - (intOf i).toNat)
  case atStart => exact ⟨0, 1000, Nat.zero_le _, rfl, rfl, HC.out.symm⟩
  case round =>
    obtain ⟨k, best, hk, rfl, rfl, hin⟩ := hrel
    by_cases hlt : k < L.length
    · obtain ⟨x, hx⟩ : ∃ x, L[k]? = some x := ⟨_, List.getElem?_eq_getElem hlt⟩
      obtain ⟨bb, off, rfl, hbb, c0, c1, c2⟩ := HA.out.lnk hx
      obtain ⟨xa, xb, xc⟩ := x
      simp only at c0 c1 c2
      by_cases h1 : xa = a
      · have h1b : (xa == a) = true := by simp [h1]
        by_cases h2 : xb = b
        · have h2b : (xb == b) = true := by simp [h2]
          by_cases hlt2 : xc < best
          · have hst := (cstI_yes hx ⟨by exact Or.inl ⟨h1, h2⟩, hlt2⟩).symm.trans hin.out
            have HST := Lib.hid hst; clear hst
            have HX := Lib.hid hx; clear hx
            try clear h4
            try clear h3
            try clear h2
            try clear h1
            go_wp2
            go_round
            case rel => exact ⟨k + 1, xc, by omega, by go_num, rfl, HST.out⟩
            case measure => simp [intOf]; omega
          · have hst := (cstI_no hx (fun h => hlt2 h.2)).symm.trans hin.out
            have HST := Lib.hid hst; clear hst
            have HX := Lib.hid hx; clear hx
            try clear h4
            try clear h3
            try clear h2
            try clear h1
            have hlt3 : decide (xc < best) = false := decide_eq_false hlt2
            clear hlt2
            go_wp2
            go_round
            case rel => exact ⟨k + 1, best, by omega, by go_num, rfl, HST.out⟩
            case measure => simp [intOf]; omega
        · have h2b : (xb == b) = false := by simp [h2]
          by_cases h3 : xa = b
          · have h3b : (xa == b) = true := by simp [h3]
            have h4 : ¬ xb = a := fun h => h2 (by omega)
            have h4b : (xb == a) = false := by simp [h4]
            have hst := (cstI_no hx (by simp only; omega)).symm.trans hin.out
            have HST := Lib.hid hst; clear hst
            have HX := Lib.hid hx; clear hx
            try clear h4
            try clear h3
            try clear h2
            try clear h1
            go_wp2
            go_round
            case rel => exact ⟨k + 1, best, by omega, by go_num, rfl, HST.out⟩
            case measure => simp [intOf]; omega
          · have h3b : (xa == b) = false := by simp [h3]
            have hst := (cstI_no hx (by simp only; omega)).symm.trans hin.out
            have HST := Lib.hid hst; clear hst
            have HX := Lib.hid hx; clear hx
            try clear h4
            try clear h3
            try clear h2
            try clear h1
            go_wp2
            go_round
            case rel => exact ⟨k + 1, best, by omega, by go_num, rfl, HST.out⟩
            case measure => simp [intOf]; omega
      · have h1b : (xa == a) = false := by simp [h1]
        by_cases h3 : xa = b
        · have h3b : (xa == b) = true := by simp [h3]
          by_cases h4 : xb = a
          · have h4b : (xb == a) = true := by simp [h4]
            by_cases hlt2 : xc < best
            · have hst := (cstI_yes hx ⟨by exact Or.inr ⟨h3, h4⟩, hlt2⟩).symm.trans hin.out
              have HST := Lib.hid hst; clear hst
              have HX := Lib.hid hx; clear hx
              try clear h4
              try clear h3
              try clear h2
              try clear h1
              go_wp2
              go_round
              case rel => exact ⟨k + 1, xc, by omega, by go_num, rfl, HST.out⟩
              case measure => simp [intOf]; omega
            · have hst := (cstI_no hx (fun h => hlt2 h.2)).symm.trans hin.out
              have HST := Lib.hid hst; clear hst
              have HX := Lib.hid hx; clear hx
              try clear h4
              try clear h3
              try clear h2
              try clear h1
              have hlt3 : decide (xc < best) = false := decide_eq_false hlt2
              clear hlt2
              go_wp2
              go_round
              case rel => exact ⟨k + 1, best, by omega, by go_num, rfl, HST.out⟩
              case measure => simp [intOf]; omega
          · have h4b : (xb == a) = false := by simp [h4]
            have hst := (cstI_no hx (by simp only; omega)).symm.trans hin.out
            have HST := Lib.hid hst; clear hst
            have HX := Lib.hid hx; clear hx
            try clear h4
            try clear h3
            try clear h2
            try clear h1
            go_wp2
            go_round
            case rel => exact ⟨k + 1, best, by omega, by go_num, rfl, HST.out⟩
            case measure => simp [intOf]; omega
        · have h3b : (xa == b) = false := by simp [h3]
          have hst := (cstI_no hx (by simp only; omega)).symm.trans hin.out
          have HST := Lib.hid hst; clear hst
          have HX := Lib.hid hx; clear hx
          try clear h4
          try clear h3
          try clear h2
          try clear h1
          go_wp2
          go_round
          case rel => exact ⟨k + 1, best, by omega, by go_num, rfl, HST.out⟩
          case measure => simp [intOf]; omega
    · have hcb : best = c := by
        have := hin.out
        rw [List.drop_of_length_le (by omega)] at this
        exact this
      subst hcb
      go_wp2
      go_ret
      exact ⟨rfl, rfl⟩
end Go.Proofs.YtnmddgjgmdegoaaDoor
