/- ferryhytheref1.Routes.at. -/
import Derived.Test.YtbcfcjecobihnaaDoorRtRow
import Derived.Test.YtbcfcjecobihnaaDoorRtPlain
import Derived.BigQuiet
import Derived.Deep.DeepCutAuto
namespace Go.Proofs.YtbcfcjecobihnaaDoor
open Go.RowKit
set_option linter.unusedVariables false
set_option linter.unusedSimpArgs false
set_option maxRecDepth 100000

theorem ltK_iff {x : Rte} {a n : Nat} : ltK x a n = true ↔ (x.1 < a ∨ (x.1 = a ∧ x.2.1 < n)) := by simp [ltK]
theorem ltK_no {x : Rte} {a n : Nat} : ltK x a n = false ↔ ¬ (x.1 < a ∨ (x.1 = a ∧ x.2.1 < n)) := by simp only [ltK, decide_eq_false_iff_not]
set_option maxHeartbeats 2000000 in
theorem refAtR_any (B : Nat) (ao : Option Addr) (cap : Nat) (L : List Rte) (a n : Nat) (w : World) (h : RteSl B w ao L) (hB : B ≤ w.heap.size) (hl : L.length ≤ 1000) :
    Calls Tryd.prog 35 #[.agg #[.slice ao L.length cap], .agg #[.int .i64 (a : Int), .int .i64 (n : Int)]] w fun e w' => e = .returned (.tuple #[.int .i64 (atK L a n : Nat), .bool (isK L a n)]) ∧ Below w.heap.size w w' := by
  have hb := (Below.refl w.heap.size w).alloc (Nat.le_refl _) (.cells #[.slice ao L.length cap] 27) |>.alloc (by simp) (.cells #[.int .i64 (a : Int), .int .i64 (n : Int)] 34)
  have hx := ((Sep.nil w.heap.size w).blkNew (Nat.le_refl _) #[.slice ao L.length cap] 27).blkNew (by simp) #[.int .i64 (a : Int), .int .i64 (n : Int)] 34
  rw [show (w.alloc (.cells #[.slice ao L.length cap] 27)).heap.size = w.heap.size + 1 by simp] at hx
  obtain ⟨gp, hgp⟩ : ∃ gp, gp = w.heap.size + 1 := ⟨_, rfl⟩
  obtain ⟨gb, hgb⟩ : ∃ gb, gb = w.heap.size := ⟨_, rfl⟩
  obtain ⟨W, hW⟩ : ∃ W, W = (w.alloc (.cells #[.slice ao L.length cap] 27)).alloc (.cells #[.int .i64 (a : Int), .int .i64 (n : Int)] 34) := ⟨_, rfl⟩
  rw [← hW] at hb hx
  rw [← hgp, ← hgb] at hx
  have r0 := (Sep.blkAt (A := [_]) hx (j := 0) rfl).1
  have p0 := (Sep.blkAt (A := []) hx (j := 0) rfl).1
  have p1 := (Sep.blkAt (A := []) hx (j := 1) rfl).1
  have HS := Lib.hid (show RteSl B W ao L from RowSl.below h (hb.mono hB))
  have HB := Lib.hid hb
  have HW := Lib.hid hW
  have HGP := Lib.hid hgp
  have HG := Lib.hid hgb
  clear h hb hx hW hgp hgb
  go_enter Tryd.func35, Tryd.ntmps35
  go_wp2
  rw [← HW.out, ← HGP.out, ← HG.out]
  go_loopw [6] (fun x wr => ∃ k : Nat, k ≤ L.length ∧ x = .int .i64 k ∧ Hid (∀ j y, j < k → L[j]? = some y → ltK y a n = true) ∧ ∃ m, wr = W.drewN m) (fun x _ => L.length - (intOf x).toNat)
  case atStart => exact ⟨0, Nat.zero_le _, rfl, (fun j y hj => by omega), 0, rfl⟩
  case round =>
    obtain ⟨k, hk, rfl, HT, m, rfl⟩ := hrel
    by_cases hlt : k < L.length
    · obtain ⟨⟨x1, x2, x3⟩, hx⟩ : ∃ x, L[k]? = some x := ⟨_, List.getElem?_eq_getElem hlt⟩
      obtain ⟨b, o, rfl, -, d0, d1, d2⟩ := rteSl_at HS.out hx
      simp only at d0 d1 d2
      have hki : (k : Int) < (L.length : Int) := by omega
      have hk0 : (0 : Int) ≤ (k : Int) := by omega
      have HX := Lib.hid hx
      clear hx
      by_cases h1 : x1 < a
      · have h2 : True := trivial
        have h3 : True := trivial
        have e1 : decide ((x1 : Int) < (a : Int)) = true := by simp; omega
        have e1' : decide (x1 < a) = true := by simp; omega
        have hnext : ∀ j y, j < k + 1 → L[j]? = some y → ltK y a n = true := by
          intro j y hj hy
          rcases Nat.lt_succ_iff_lt_or_eq.1 hj with h | rfl
          · exact HT.out j y h hy
          · rw [HX.out] at hy
            cases hy
            exact ltK_iff.2 (by simp only; omega)
        have HN := Lib.hid hnext
        clear hnext h1 h2 h3
        go_wp2_with fail
        go_quiet (fail)
        go_wp2
        go_roundw
        case rel => exact ⟨k + 1, by omega, by go_num, HN.out, (by first | exact ⟨_, rfl⟩ | exact drewN_two W _ _)⟩
        case measure => simp [intOf]; omega
      · by_cases h2 : x1 = a
        · by_cases h3 : x2 < n
          · have e1 : decide ((x1 : Int) < (a : Int)) = false := by simp; omega
            have e1' : decide (x1 < a) = false := by simp; omega
            have e2 : ((x1 : Int) == (a : Int)) = true := by simp; omega
            have e2' : (x1 == a) = true := by simp; omega
            have e3 : decide ((x2 : Int) < (n : Int)) = true := by simp; omega
            have e3' : decide (x2 < n) = true := by simp; omega
            have hnext : ∀ j y, j < k + 1 → L[j]? = some y → ltK y a n = true := by
              intro j y hj hy
              rcases Nat.lt_succ_iff_lt_or_eq.1 hj with h | rfl
              · exact HT.out j y h hy
              · rw [HX.out] at hy
                cases hy
                exact ltK_iff.2 (by simp only; omega)
            have HN := Lib.hid hnext
            clear hnext h1 h2 h3
            go_wp2_with fail
            go_quiet (fail)
            go_wp2
            go_roundw
            case rel => exact ⟨k + 1, by omega, by go_num, HN.out, (by first | exact ⟨_, rfl⟩ | exact drewN_two W _ _)⟩
            case measure => simp [intOf]; omega
          · have e1 : decide ((x1 : Int) < (a : Int)) = false := by simp; omega
            have e1' : decide (x1 < a) = false := by simp; omega
            have e2 : ((x1 : Int) == (a : Int)) = true := by simp; omega
            have e2' : (x1 == a) = true := by simp; omega
            have e3 : decide ((x2 : Int) < (n : Int)) = false := by simp; omega
            have e3' : decide (x2 < n) = false := by simp; omega
            by_cases h4 : x2 = n
            · have hat : atK L a n = k := atK_is hk (fun j y hj hy => HT.out j y hj hy) (fun y hy => by
                rw [HX.out] at hy
                cases hy
                exact ltK_no.2 (by simp only; omega))
              have his : isK L a n = true := by
                unfold isK
                rw [hat, HX.out]
                simp [keyIs]; omega
              have f1 : ((x1 : Int) == (a : Int)) = true := by simp; omega
              have f1' : (x1 == a) = true := by simp; omega
              have f2 : ((x2 : Int) == (n : Int)) = true := by simp; omega
              have f2' : (x2 == n) = true := by simp; omega
              have HAT := Lib.hid hat
              have HIS := Lib.hid his
              clear hat his h1 h2 h3
              go_wp2_with fail
              go_quiet (fail)
              go_wp2_with fail
              go_quiet (fail)
              go_wp2
              go_ret2
              rw [HAT.out, HIS.out]
              exact ⟨rfl, HB.out.trans ((below_drewN _ _ _).trans ((below_drewN _ _ _).trans (below_drewN _ _ _)) |>.mono HB.out.size)⟩
            · have hat : atK L a n = k := atK_is hk (fun j y hj hy => HT.out j y hj hy) (fun y hy => by
                rw [HX.out] at hy
                cases hy
                exact ltK_no.2 (by simp only; omega))
              have his : isK L a n = false := by
                unfold isK
                rw [hat, HX.out]
                simp [keyIs]; omega
              have f1 : ((x1 : Int) == (a : Int)) = true := by simp; omega
              have f1' : (x1 == a) = true := by simp; omega
              have f2 : ((x2 : Int) == (n : Int)) = false := by simp; omega
              have f2' : (x2 == n) = false := by simp; omega
              have HAT := Lib.hid hat
              have HIS := Lib.hid his
              clear hat his h1 h2 h3
              go_wp2_with fail
              go_quiet (fail)
              go_wp2_with fail
              go_quiet (fail)
              go_wp2
              go_ret2
              rw [HAT.out, HIS.out]
              exact ⟨rfl, HB.out.trans ((below_drewN _ _ _).trans ((below_drewN _ _ _).trans (below_drewN _ _ _)) |>.mono HB.out.size)⟩
        · have h3 : True := trivial
          have e1 : decide ((x1 : Int) < (a : Int)) = false := by simp; omega
          have e1' : decide (x1 < a) = false := by simp; omega
          have e2 : ((x1 : Int) == (a : Int)) = false := by simp; omega
          have e2' : (x1 == a) = false := by simp; omega
          by_cases h4 : x2 = n
          · have hat : atK L a n = k := atK_is hk (fun j y hj hy => HT.out j y hj hy) (fun y hy => by
              rw [HX.out] at hy
              cases hy
              exact ltK_no.2 (by simp only; omega))
            have his : isK L a n = false := by
              unfold isK
              rw [hat, HX.out]
              simp [keyIs]; omega
            have f1 : ((x1 : Int) == (a : Int)) = false := by simp; omega
            have f1' : (x1 == a) = false := by simp; omega
            have f2 : ((x2 : Int) == (n : Int)) = true := by simp; omega
            have f2' : (x2 == n) = true := by simp; omega
            have HAT := Lib.hid hat
            have HIS := Lib.hid his
            clear hat his h1 h2 h3
            go_wp2_with fail
            go_quiet (fail)
            go_wp2_with fail
            go_quiet (fail)
            go_wp2
            go_ret2
            rw [HAT.out, HIS.out]
            exact ⟨rfl, HB.out.trans ((below_drewN _ _ _).trans ((below_drewN _ _ _).trans (below_drewN _ _ _)) |>.mono HB.out.size)⟩
          · have hat : atK L a n = k := atK_is hk (fun j y hj hy => HT.out j y hj hy) (fun y hy => by
              rw [HX.out] at hy
              cases hy
              exact ltK_no.2 (by simp only; omega))
            have his : isK L a n = false := by
              unfold isK
              rw [hat, HX.out]
              simp [keyIs]; omega
            have f1 : ((x1 : Int) == (a : Int)) = false := by simp; omega
            have f1' : (x1 == a) = false := by simp; omega
            have f2 : ((x2 : Int) == (n : Int)) = false := by simp; omega
            have f2' : (x2 == n) = false := by simp; omega
            have HAT := Lib.hid hat
            have HIS := Lib.hid his
            clear hat his h1 h2 h3
            go_wp2_with fail
            go_quiet (fail)
            go_wp2_with fail
            go_quiet (fail)
            go_wp2
            go_ret2
            rw [HAT.out, HIS.out]
            exact ⟨rfl, HB.out.trans ((below_drewN _ _ _).trans ((below_drewN _ _ _).trans (below_drewN _ _ _)) |>.mono HB.out.size)⟩
    · have hd : decide ((k : Int) < (L.length : Int)) = false := decide_eq_false (by omega)
      have hd2 : decide (k < L.length) = false := decide_eq_false hlt
      have hat : atK L a n = k := atK_is hk (fun j y hj hy => HT.out j y hj hy) (fun y hy => by rw [List.getElem?_eq_none (by omega)] at hy; cases hy)
      have his : isK L a n = false := by
        unfold isK
        rw [hat, List.getElem?_eq_none (by omega)]
      have HAT := Lib.hid hat
      have HIS := Lib.hid his
      clear hat his hlt
      go_wp2_with fail
      go_quiet (fail)
      go_wp2_with fail
      go_quiet (fail)
      go_wp2
      go_ret2
      rw [HAT.out, HIS.out]
      exact ⟨rfl, HB.out.trans ((below_drewN _ _ _).trans ((below_drewN _ _ _).trans (below_drewN _ _ _)) |>.mono HB.out.size)⟩
end Go.Proofs.YtbcfcjecobihnaaDoor
