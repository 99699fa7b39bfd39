/- TopShares returns true: on one link all have alike; who add and halve come near each other. -/
import Derived.Test.YtciolkmhafdlpaaTopMax
import Derived.Test.YtciolkmhafdlpaaAimd
import Derived.Test.YtciolkmhafdlpaaRising
import Derived.Test.YtciolkmhafdlpaaInTop
import Derived.Test.YtciolkmhafdlpaaInts
import Derived.Deep.DeepCutAuto
import Derived.Deep.LoopGhost
import Derived.StillTailTactics
import Derived.BigQuiet
namespace Go.Proofs.Ytciolkmhafdlpaa
open Go.RowKit
set_option linter.unusedVariables false

def ones (bs : List Nat) : List (Nat × List Int) := bs.map fun b => (b, [0])
theorem ones_rows (bs : List Nat) : ∀ w ∈ rowsOf ((ones bs).map stpOf), w = [0] := by
  intro w hw
  simp [rowsOf, ones, stpOf] at hw
  exact hw.2.symm
theorem ones_len (bs : List Nat) : (rowsOf ((ones bs).map stpOf)).length = bs.length := by simp [rowsOf, ones]

set_option maxHeartbeats 4000000 in
set_option maxRecDepth 100000 in
theorem topShares_walk (room many : Int) (ao : Option Addr) (ac : Nat) (l : List Int) (w : World) (_ : -9223372036854775808 ≤ room ∧ room ≤ 9223372036854775807) (_ : -9223372036854775808 ≤ many ∧ many ≤ 9223372036854775807) (hA : IntSl w.heap.size w ao l) (hac : l.length ≤ ac) (hmax : ac ≤ maxLen) (_ : ∀ x ∈ l, -9223372036854775808 ≤ x ∧ x ≤ 9223372036854775807) :
    Calls Try.prog 6 #[.int .i64 room, .int .i64 many, .slice ao l.length ac] w fun e w' => e = .returned (.bool true) ∧ Below w.heap.size w w' := by
  unfold maxLen at hmax
  have HA := Lib.hid hA; clear hA
  obtain ⟨n, hn⟩ : ∃ n, n = l.length := ⟨_, rfl⟩
  rw [← hn] at hac ⊢
  have HN := Lib.hid hn; clear hn
  go_enter Try.func6, Try.ntmps6
  go_wp2_with fail
  refine (topFact_any _).mono ?_
  rintro e w1 ⟨va, rfl, hs, hb⟩
  obtain ⟨ao1, c1, rfl, _, _⟩ := hs.intsShape (A := []) (C := [])
  have HX := Lib.hid (hs.intSl (A := []) (C := [])); clear hs
  have HX2 := Lib.hid (fun o => HX.out.past (Nat.le_refl _) o)
  have HB1 := Lib.hid hb; clear hb
  go_wp2_with fail
  refine (ints_any _ _ _ _ _ _ _ _ [3, 3] [3, 3] true _ (HX2.out _) (intSl_new _ _ _ _ rfl) rfl rfl (by decide) (by decide)).mono ?_
  rintro e w2 ⟨rfl, hd⟩
  have HB2 := Lib.hid (HB1.out.trans ((below_past (below_of_drew hd)).mono HB1.out.size)); clear hd
  by_cases hm : 1 ≤ many ∧ many ≤ 5
  · by_cases hr : 0 ≤ room ∧ room ≤ 1000
    · obtain ⟨M, rfl⟩ := Int.eq_ofNat_of_zero_le (show 0 ≤ many by omega)
      obtain ⟨R, rfl⟩ := Int.eq_ofNat_of_zero_le hr.1
      obtain ⟨g, hg⟩ : ∃ g, g = w2.heap.size := ⟨_, rfl⟩
      have hgw : w.heap.size ≤ g := by rw [hg]; exact HB2.out.size
      have HG := Lib.hid hg; clear hg
      go_wp2_with (go_at_call 19; refine (inTop_yes _ _ _ _ (by omega) (by omega)).mono ?_; rintro e w' ⟨rfl, rfl⟩)
      go_loopg [9, 10] M (fun gk v i wr => ∃ (k : Nat) (bs : List Nat) (vv : Value), gk + k = M ∧ vv = v ∧ i = .int .i64 k ∧ Hid (bs.length = k) ∧ Sep g wr (Ent.row vv k 1 22 (((ones bs).map stpOf).map stpV) :: (ones bs).map blkOf) ∧ Below g w2 wr)
      case atStart => exact ⟨0, [], _, by omega, rfl, rfl, rfl, (Sep.nil g w2).rowNil 1 _, Below.refl g w2⟩
      case round =>
        obtain ⟨gi, rfl⟩ : ∃ gi, gi = gk := ⟨_, rfl⟩
        obtain ⟨k, bs, v, hgk, rfl, rfl, hbl, hsep, hbel⟩ := hrel
        have hgr : g ≤ wr.heap.size := Nat.le_trans (by rw [HG.out]; exact Nat.le_refl _) hbel.size
        by_cases hlt : k < M
        · have hs1 := hsep.blkNew hgr #[.int .i64 0] 3
          have hs2 := hs1.perm (List.Perm.swap _ _ _)
          have HS2 := Lib.hid hs2; clear hs1 hs2 hsep
          have hb2 := hbel.alloc hgr (.cells #[.int .i64 0] 3)
          have HBE := Lib.hid hb2; clear hb2 hbel
          have hz : (wr.alloc (.cells #[.int .i64 0] 3)).heap.size = wr.heap.size + 1 := by simp
          have HZ := Lib.hid hz; clear hz
          go_wp2_with (at_builtin; refine wpList_append_one (A := []) (z := .slice none 0 0) (size := 1) ?_ (.tmp 46) (.tmp 48) ?_ elemRow ?_ HS2.out ?_ ?_ ?_ ?_ ?_ ?_; rfl; rfl; rfl; (rw [HZ.out]; omega); exact ((show _ = Value.slice (some ⟨wr.heap.size + 1, 0, none⟩) 1 1 from rfl).trans (by rw [HZ.out])); rfl; omega; decide)
          intro v' w5 hs5 hb5
          have hs6 : Sep g w5 (Ent.row v' (k + 1) 1 22 (((ones (bs ++ [wr.heap.size])).map stpOf).map stpV) :: (ones (bs ++ [wr.heap.size])).map blkOf) := by
            have e1 : List.map (stpV ∘ stpOf) (ones bs) ++ [Value.slice (some ⟨wr.heap.size, 0, none⟩) 1 1] = ((ones (bs ++ [wr.heap.size])).map stpOf).map stpV := by simp [ones, stpOf, stpV]
            have := hs5.perm (L' := Ent.row v' (k + 1) 1 22 (((ones (bs ++ [wr.heap.size])).map stpOf).map stpV) :: ((ones bs).map blkOf ++ [blkOf (wr.heap.size, [0])])) (by
              rw [e1]
              exact List.Perm.cons _ (List.perm_append_singleton _ _).symm)
            have e2 : (ones bs).map blkOf ++ [blkOf (wr.heap.size, [0])] = (ones (bs ++ [wr.heap.size])).map blkOf := by simp [ones]
            rw [e2] at this
            exact this
          have HS6 := Lib.hid hs6; clear hs5 hs6
          have HB6 := Lib.hid (HBE.out.trans hb5); clear hb5
          go_wp2
          go_roundg (gi - 1)
          case measure => omega
          case rel => exact ⟨k + 1, bs ++ [wr.heap.size], _, by omega, rfl, by go_num, by have := hbl.out; simp [Hid, this], HS6.out, HB6.out⟩
        · have hkM : k = M := by omega
          rw [hkM] at hsep hbl
          clear hgk hkM
          have HBL := Lib.hid hbl.out
          obtain ⟨av, cv, rfl, hcv⟩ : ∃ av cv, v = .slice av M cv ∧ M ≤ cv := by
            obtain ⟨_, a, c, h1, h2, _⟩ := Sep.rowShape (A := []) hsep
            exact ⟨a, c, h1, h2⟩
          have hs1 := hsep.blkNew hgr #[.int .i64 (R : Int)] 3
          have hb1 := hbel.alloc hgr (.cells #[.int .i64 (R : Int)] 3)
          have hM : IntSl (wr.alloc (.cells #[.int .i64 (R : Int)] 3)).heap.size (wr.alloc (.cells #[.int .i64 (R : Int)] 3)) (some ⟨wr.heap.size, 0, none⟩) [(R : Int)] := Sep.blkInts (A := []) hs1
          have hR := Sep.rowRows (A := [_]) hs1 (by simp [ones]; exact HBL.out)
          have hS := Sep.blksOk (A := [_, _]) hs1 (by intro b hb; simp [ones] at hb; obtain ⟨_, _, rfl⟩ := hb; simp [maxLen])
          have hout : mmOut [(R : Int)] (rowsOf ((ones bs).map stpOf)) = arr (fun _ => (R : Int) / (M : Int)) M := by
            rw [oneOut (ones_rows bs) (by rw [ones_len]; have := HBL.out; omega) (by rw [ones_len]; have := HBL.out; omega) hr.1 hr.2, ones_len, HBL.out]
          have hok := oneOk (r := (R : Int)) (ones_rows bs) (by rw [ones_len]; have := HBL.out; omega) hr.1 hr.2
          have HM := Lib.hid hM
          have HR := Lib.hid hR
          have HS := Lib.hid hS
          have HOUT := Lib.hid hout
          have HOK := Lib.hid hok
          have HB3 := Lib.hid hb1
          clear hM hR hS hout hok hs1 hb1 hsep hbel
          go_wp2_with fail
          refine (mmShare_ok _ 1 1 [(R : Int)] _ _ _ _ _ _ HM.out rfl HR.out HS.out (by simp [ones]; exact HBL.out.symm) (Nat.le_refl _) HOK.out).mono ?_
          rintro e w3 ⟨vs, rfl, hs3, hb3⟩
          rw [HOUT.out] at hs3
          have HB4 := Lib.hid (HB3.out.trans (hb3.mono (by have := HB3.out.size; rw [← HG.out] at this; exact this))); clear hb3
          obtain ⟨as3, cs3, rfl, hcs, _⟩ := hs3.intsShape (A := []) (C := [])
          have hq := hs3.intSl (A := []) (C := [])
          rw [arr_len] at hcs ⊢
          have HQ := Lib.hid hq; clear hq hs3
          have hnn : ((M : Int) != (M : Int)) = false := by simp
          obtain ⟨W3, hW3⟩ : ∃ W, W = w3 := ⟨_, rfl⟩
          rw [hW3.symm] at HQ HB4
          have HGG : Hid (Below g w2 w3) := Lib.hid (by rw [← hW3]; exact HB4.out)
          go_wp2
          go_loopg [13] M (fun gk i wr => ∃ (j : Nat), gk + j = M ∧ i = .int .i64 j ∧ Below W3.heap.size W3 wr)
          case atStart => exact ⟨0, by omega, rfl, by rw [hW3]; exact Below.refl _ _⟩
          case round =>
            obtain ⟨gj, rfl⟩ : ∃ gj, gj = gk := ⟨_, rfl⟩
            obtain ⟨j, hgj, rfl, hbe⟩ := hrel
            have HBJ := Lib.hid hbe; clear hbe
            by_cases hjk : j < M
            · obtain ⟨b, off, rfl, hbb, cx⟩ := (HQ.out.below HBJ.out) j _ (arr_get hjk)
              obtain ⟨q, hq⟩ : ∃ q, q = (R : Int) / (M : Int) := ⟨_, rfl⟩
              have hq2 : (R : Int).tdiv (M : Int) = q := by rw [hq, Int.tdiv_eq_ediv_of_nonneg (by omega)]
              rw [← hq] at cx
              have HQQ := Lib.hid hq; clear hq
              have hqb : 0 ≤ q ∧ q ≤ 1000 := by
                rw [HQQ.out]
                exact ⟨Int.ediv_nonneg (by omega) (by omega), Int.le_trans (Int.ediv_le_self _ (by omega)) (by omega)⟩
              have hqq : (q != q) = false := by simp
              go_wp2_with fail
              go_quiet (fail)
              have HBD := Lib.hid (HBJ.out.trans (below_drewN _ wr nq))
              generalize wr.drewN nq = wq at *
              go_wp2
              go_roundg (gj - 1)
              case measure => omega
              case rel => exact ⟨j + 1, by omega, by go_num, HBD.out⟩
            · have hbw3 : Below w.heap.size w W3 := HB2.out.trans (HB4.out.mono hgw)
              have hbw : Below w.heap.size w wr := hbw3.trans (HBJ.out.mono hbw3.size)
              have HBW := Lib.hid hbw
              clear hbw hbw3 HB4 HBJ HQ HM HR HS HB3 HGG
              have HLA := Lib.hid (HA.out.below HBW.out)
              by_cases hc : aCode l = 0
              · obtain ⟨hl0, hl5, hbd⟩ := aCode_zero.1 hc
                have hrun := aimdRun_ok ao n ac _ l wr HLA.out HN.out HBW.out.size hl0 hl5 hbd 400 (by decide)
                rw [show ((400 : Nat) : Int) = 400 from rfl] at hrun
                have hend := aimd_end hl0 hbd
                obtain ⟨fin, hfin⟩ : ∃ fin, fin = aRun 20 400 (l, 0) := ⟨_, rfl⟩
                rw [← hfin] at hrun hend
                obtain ⟨e1, e2, e3, e4, e5⟩ := hend
                rw [← HN.out] at e1
                have hn5 : n ≤ 5 := by rw [HN.out]; exact hl5
                have hn0 : 0 < n := by rw [HN.out]; exact hl0
                obtain ⟨ms, hv⟩ := fin
                simp only at e1 e2 e3 e4 e5 hrun
                have HRUN := Lib.hid hrun
                have E1 := Lib.hid e1
                have E5 := Lib.hid e5
                have E2 := Lib.hid e2
                clear hrun hfin e1 e2 e5 hbd hc
                go_wp2_with fail
                refine HRUN.out.mono ?_
                rintro e w5 ⟨vm, rfl, hsm, hbm⟩
                obtain ⟨am, cm, rfl, hcm, _⟩ := hsm.intsShape (A := []) (C := [])
                have HB5 := Lib.hid (HBW.out.trans (hbm.mono HBW.out.size)); clear hbm
                have hq := hsm.intSl (A := []) (C := [])
                rw [E1.out] at hcm ⊢
                have HQM := Lib.hid hq; clear hq hsm
                go_wp2_with fail
                refine (rising_any am n cm _ ms _ HQM.out E1.out.symm (Nat.le_refl _) (by rw [E1.out]; omega)).mono ?_
                rintro e w6 ⟨vy, ys, rfl, hsy, hby, hper⟩
                have hyl : ys.length = n := by rw [hper.length_eq]; exact E1.out
                obtain ⟨ay, cy, rfl, hcy, _⟩ := hsy.intsShape (A := []) (C := [])
                have HB6 := Lib.hid (HB5.out.trans (hby.mono HB5.out.size)); clear hby
                obtain ⟨m, hmn⟩ : ∃ m, n = m + 1 := ⟨n - 1, by omega⟩
                have hm1 : (n : Int) - 1 = (m : Int) := by omega
                have hmlt : m < n := by omega
                have hwm : IntKind.i64.wrap (m : Int) = (m : Int) := by simp [IntKind.wrap, IntKind.bits, IntKind.signed]; omega
                obtain ⟨yl, hyL⟩ : ∃ y, ys[m]? = some y := ⟨_, List.getElem?_eq_getElem (by omega)⟩
                obtain ⟨y0, hy0⟩ : ∃ y, ys[0]? = some y := ⟨_, List.getElem?_eq_getElem (by omega)⟩
                obtain ⟨b, off, rfl, cL, _⟩ := hsy.intsAt (A := []) (C := []) hyL
                obtain ⟨b', off', hbo, c0, _⟩ := hsy.intsAt (A := []) (C := []) hy0
                simp only [Option.some.injEq, Addr.mk.injEq, and_true] at hbo
                obtain ⟨rfl, rfl⟩ := hbo
                rw [Nat.add_zero] at c0
                have mL : yl ∈ ms := hper.mem_iff.1 (List.mem_iff_getElem?.2 ⟨_, hyL⟩)
                have m0 : y0 ∈ ms := hper.mem_iff.1 (List.mem_iff_getElem?.2 ⟨_, hy0⟩)
                have bL := E2.out yl mL
                have b0 := E2.out y0 m0
                rw [hyl] at hcy ⊢
                have HML := Lib.hid mL
                have HM0 := Lib.hid m0
                clear mL m0 hyL hy0 hsy hper hyl hmn
                have hnn2 : ((n : Int) == (n : Int)) = true := by simp
                have hp1 : decide ((0 : Int) < (hv : Int)) = true := decide_eq_true (by omega)
                have hp2 : decide (0 < hv) = true := decide_eq_true (by omega)
                by_cases h10 : hv < 10
                · have hq1 : decide ((hv : Int) < 10) = true := decide_eq_true (by omega)
                  have hq2 : decide (hv < 10) = true := decide_eq_true (by omega)
                  go_wp2_with fail
                  go_quiet (fail)
                  have HBD := Lib.hid (HB6.out.trans (below_drewN _ w6 nq))
                  clear cL c0
                  generalize w6.drewN nq = wq at *
                  go_wp2
                  go_ret
                  exact ⟨rfl, HBD.out⟩
                · have hq1 : decide ((hv : Int) < 10) = false := decide_eq_false (by omega)
                  have hq2 : decide (hv < 10) = false := decide_eq_false (by omega)
                  have hyy := E5.out (by omega) yl HML.out y0 HM0.out
                  have hq3 : decide (yl - y0 ≤ 1) = true := decide_eq_true hyy
                  have HYY := Lib.hid hyy; clear hyy
                  go_wp2_with fail
                  go_quiet (fail)
                  have HBD := Lib.hid (HB6.out.trans (below_drewN _ w6 nq))
                  clear cL c0
                  generalize w6.drewN nq = wq at *
                  go_wp2
                  go_ret
                  exact ⟨rfl, HBD.out⟩
              · have HC := Lib.hid hc; clear hc
                go_wp2_with fail
                refine (aimdRun_err ao n ac _ l wr HLA.out HN.out (by rw [← HN.out]; omega) HC.out).mono ?_
                rintro e w' ⟨rfl, rfl⟩
                go_wp2
                go_ret
                exact ⟨rfl, HBW.out⟩
    · have HRR := Lib.hid hr; clear hr
      go_wp2_with fail
      refine (inTop_yes many 1 5 _ hm.1 hm.2).mono ?_
      rintro e w' ⟨rfl, rfl⟩
      go_wp2_with fail
      refine (inTop_no room 0 1000 _ HRR.out).mono ?_
      rintro e w' ⟨rfl, rfl⟩
      go_wp2
      go_ret
      exact ⟨rfl, HB2.out⟩
  · have HMM := Lib.hid hm; clear hm
    go_wp2_with (go_at_call 19; refine (inTop_no many 1 5 _ HMM.out).mono ?_; rintro e w' ⟨rfl, rfl⟩)
    go_ret
    exact ⟨rfl, HB2.out⟩
end Go.Proofs.Ytciolkmhafdlpaa
