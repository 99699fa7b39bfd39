/- TopWays returns true: what neighbours tell, all links, who is told, and the tree agree on how far it is, and on who can be reached. -/
import Derived.Test.YtnmddgjgmdegoaaFlood
import Derived.Test.YtnmddgjgmdegoaaRpfTreePlain
import Derived.Test.YtnmddgjgmdegoaaVRoundsOk
import Derived.Test.YtnmddgjgmdegoaaTree
import Derived.Test.YtnmddgjgmdegoaaStpKit
import Derived.Test.YtnmddgjgmdegoaaInts
import Derived.Test.YtnmddgjgmdegoaaInTop
import Derived.Test.YtnmddgjgmdegoaaMatR
import Derived.Test.YtnmddgjgmdegoaaLnkRow
import Derived.Deep.LoopGhost
import Derived.BigQuiet
namespace Go.Proofs.Ytnmddgjgmdegoaa
open Go.RowKit
set_option linter.unusedVariables false
set_option maxRecDepth 100000

theorem mat_row {B : Nat} {w : World} {ao : Option Addr} {P : Nat → Nat × Nat × Nat} {m n : Nat} {M : Nat → Nat → Int} (h : MatR B w ao P m n M) {i : Nat} (hi : i < m) : IntSl B w (some ⟨(P i).1, (P i).2.1, none⟩) (arr (M i) n) := by
  obtain ⟨g, o, _, _, _, hp, hr⟩ := h i hi
  intro j x hx
  by_cases hj : j < n
  · rw [arr_get hj] at hx
    obtain rfl := Option.some.inj hx
    exact ⟨_, _, rfl, hp, hr j hj⟩
  · rw [List.getElem?_eq_none (by rw [arr_len]; omega)] at hx; cases hx
theorem root_rch {n : Nat} {L : List Lnk} {o : Nat} (h : VOk n L) (ho : o < n) {v : Nat} (hv : v < n) : rootF n (edges L) v = rootF n (edges L) o ↔ Rch L o v := by
  refine ⟨fun e => ?_, root_same h ho hv⟩
  have h8 := h.n8
  obtain ⟨a1, a2, -⟩ := rootF_spec h.net hv
  obtain ⟨b1, b2, -⟩ := rootF_spec h.net ho
  have s1 := far_short h.net h8 a1 a2
  have s2 := far_short h.net h8 b1 b2
  rw [e] at s1
  have t := far_tri h.net h8 b1 ho (u := v)
  rw [far_swap h.net (u := rootF n (edges L) o) (v := o)] at t
  show far (edges L) v o < 1000
  omega
def tL : List Lnk := [(0, 1, 7)]
theorem tL_ok : VOk 2 tL := ⟨by decide, by decide, by decide, by unfold LOk tL; decide⟩
theorem tL_row : arr (bell (edges tL) 1 0) 2 = [0, 7] := by decide +kernel
set_option maxHeartbeats 8000000 in
theorem topWays_walk (n : Int) (ao : Option Addr) (ac : Nat) (L : List Lnk) (f : Int) (w : World) (hnb : -9223372036854775808 ≤ n ∧ n ≤ 9223372036854775807) (hA : RowSl w.heap.size w ao 3 (L.map lnkC)) (hac : L.length ≤ ac) (hmax : ac ≤ maxLen) (hgood : ∀ x ∈ L, LnkGood x)
    (hfb : -9223372036854775808 ≤ f ∧ f ≤ 9223372036854775807) :
    Calls Try.prog 8 #[.int .i64 n, .slice ao L.length ac, .int .i64 f] w fun e w' => e = .returned (.bool true) ∧ Below w.heap.size w w' := by
  unfold maxLen at hmax
  have HA := Lib.hid hA; clear hA hgood
  have hci : Try.prog.cellsOf 3 = 1 := by kernel_rfl
  have r1 := lnkSl_new w _ rfl #[.int .i64 0, .int .i64 1, .int .i64 7] 71 tL rfl
  have b1 := below_alloc w (.cells #[.int .i64 0, .int .i64 1, .int .i64 7] 71)
  have z1 : (w.alloc (.cells #[.int .i64 0, .int .i64 1, .int .i64 7] 71)).heap.size = w.heap.size + 1 := by simp
  have R1 := Lib.hid r1
  have B1 := Lib.hid b1
  have Z1 := Lib.hid z1
  clear r1 b1 z1
  obtain ⟨g, hg⟩ : ∃ g, g = w.heap.size := ⟨_, rfl⟩
  have HG := Lib.hid hg; clear hg
  go_enter Try.func8, Try.ntmps8
  go_wp2_with fail
  refine (rounds_ok 2 _ 1 1 _ tL 1 _ R1.out rfl (Nat.le_of_eq Z1.out.symm) tL_ok (by decide)).mono ?_
  rintro e w2 ⟨v, P, rfl, hs, hb⟩
  have hs' := hs
  rw [← List.append_nil (matE v P 2 2 _)] at hs'
  obtain ⟨av, cv, rfl, _, _⟩ := mat_out (F := []) hs'
  have hm := mat_read (F := []) hs' (by decide)
  have hrow := mat_row hm (show 0 < 2 by decide)
  rw [tL_row] at hrow
  obtain ⟨g0, o0, rfl, hg0, c0, _, _⟩ := hm 0 (by decide)
  unfold rowV at c0
  simp only [Nat.add_zero] at c0
  obtain ⟨q1, hq1⟩ : ∃ q1, q1 = (P 0).1 := ⟨_, rfl⟩
  obtain ⟨q2, hq2⟩ : ∃ q2, q2 = (P 0).2.1 := ⟨_, rfl⟩
  obtain ⟨q3, hq3⟩ : ∃ q3, q3 = (P 0).2.2 := ⟨_, rfl⟩
  rw [← hq1, ← hq2] at hrow
  rw [← hq1, ← hq2, ← hq3] at c0
  have HB2 := Lib.hid (B1.out.trans (hb.mono (Nat.le_trans (Nat.le_succ _) (Nat.le_of_eq Z1.out.symm))))
  have hX3 : ∀ o : Obj, IntSl w2.heap.size (w2.alloc o) (some ⟨q1, q2, none⟩) [0, 7] := fun o => hrow.past (Nat.le_refl _) o
  have HX3 := Lib.hid hX3
  clear hs hs' hb hm hrow hX3 hq1 hq2 hq3 R1 B1 Z1 hg0
  go_wp2_with fail
  refine (ints_any _ _ _ _ _ _ _ _ [0, 7] [0, 7] true _ (HX3.out _) (intSl_new _ _ _ _ rfl) rfl rfl (by decide) (by decide)).mono ?_
  rintro e w1 ⟨rfl, hd⟩
  have hb1 := HB2.out.trans ((below_past (below_of_drew hd)).mono HB2.out.size)
  have HB1 := Lib.hid (show Below g w w1 by rw [HG.out]; exact hb1)
  have hg1 : g ≤ w1.heap.size := by rw [HG.out]; exact hb1.size
  rw [← HG.out] at HA
  clear hd hb1 HB2 HX3 c0
  obtain ⟨c, hc⟩ : ∃ c, c = vCode n L := ⟨_, rfl⟩
  by_cases hc0 : c = 0
  · obtain ⟨m, rfl, hok⟩ := vCode_zero.1 (hc.symm.trans hc0)
    clear hc hc0
    have hn8 := hok.n8
    have hn1 := hok.n1
    have hl32 := hok.few
    have HOK := Lib.hid hok; clear hok
    go_wp2_with fail
    refine (rounds_ok m _ _ _ g L 8 _ (HA.out.below HB1.out) rfl hg1 HOK.out (by decide)).mono ?_
    rintro e w3 ⟨v, P, rfl, hs, hb⟩
    have hs' := hs
    rw [← List.append_nil (matE v P m m _)] at hs'
    obtain ⟨av, cv, rfl, _, _⟩ := mat_out (F := []) hs'
    have HM := Lib.hid (mat_read (F := []) hs' (by omega))
    have HB3 := Lib.hid (HB1.out.trans (hb.mono hg1))
    have hg3 : g ≤ w3.heap.size := Nat.le_trans hg1 hb.size
    clear hs hs' hb
    by_cases ho : 0 ≤ f ∧ f ≤ (m : Int) - 1
    · obtain ⟨o, rfl⟩ := Int.eq_ofNat_of_zero_le ho.1
      have hom : o < m := by omega
      have hoi : (o : Int) < (m : Int) := by omega
      have ho0 : (0 : Int) ≤ (o : Int) := by omega
      clear ho
      go_wp2_with fail
      refine (from_ok m _ _ _ g L o _ (HA.out.below HB3.out) rfl hg3 HOK.out hom).mono ?_
      rintro e w4 ⟨vf, vh, hf, rfl, hhop, hs, hb⟩
      obtain ⟨af, cf, rfl, -, -⟩ := hs.intsShape (A := []) (C := [_])
      obtain ⟨ah, ch, rfl, -, -⟩ := hs.intsShape (A := [_]) (C := [])
      have HY := Lib.hid (hs.intSl (A := []) (C := [_]))
      rw [arr_len]
      have HM4 := Lib.hid ((HM.out.below hb).mono hb.size)
      have HB4 := Lib.hid (HB3.out.trans (hb.mono hg3))
      have hg4 : g ≤ w4.heap.size := Nat.le_trans hg3 hb.size
      clear hs hb hhop HM
      go_wp2_with fail
      refine (flood_ok m _ _ _ g L o _ (HA.out.below HB4.out) rfl hg4 HOK.out hom).mono ?_
      rintro e w5 ⟨vl, rfl, hs, hb⟩
      obtain ⟨al, cl, rfl, -, -⟩ := hs.intsShape (A := []) (C := [])
      have HX := Lib.hid (hs.intSl (A := []) (C := []))
      rw [arr_len]
      have HM5 := Lib.hid ((HM4.out.below hb).mono hb.size)
      have HY5 := Lib.hid ((HY.out.below hb).mono hb.size)
      have HB5 := Lib.hid (HB4.out.trans (hb.mono hg4))
      have hg5 : g ≤ w5.heap.size := Nat.le_trans hg4 hb.size
      clear hs hb HM4 HY
      obtain ⟨sn, hsn⟩ : ∃ sn, sn = sentOf m L o := ⟨_, rfl⟩
      rw [← hsn]
      clear hsn
      go_wp2_with fail
      refine (tree_ok m _ _ _ g L _ (HA.out.below HB5.out) rfl hg5 HOK.out).mono ?_
      rintro e w7 ⟨vr, vu, vo, rfl, hs, hb⟩
      obtain ⟨gr, fr, cr, gu, fu, cu, gv, fv, cv2, rfl, rfl, rfl, h1, h2, h3⟩ := tree_shape hs (by omega)
      have HR := Lib.hid h1
      have HU := Lib.hid h2
      have HM7 := Lib.hid ((HM5.out.below hb).mono hb.size)
      have HY7 := Lib.hid ((HY5.out.below hb).mono hb.size)
      have HX7 := Lib.hid ((HX.out.below hb).mono hb.size)
      have HB7 := Lib.hid (HB5.out.trans (hb.mono hg5))
      have hg7 : g ≤ w7.heap.size := Nat.le_trans hg5 hb.size
      clear hs hb h1 h2 h3 HM5 HY5 HX
      have hmm : ((m : Int) != (m : Int)) = false := by simp
      obtain ⟨r, hr⟩ : ∃ r, r = rootF m (edges L) o := ⟨_, rfl⟩
      have hrm : r < m := by rw [hr]; exact (rootF_spec HOK.out.net hom).1
      have hri : (r : Int) < (m : Int) := by omega
      have hr0 : (0 : Int) ≤ (r : Int) := by omega
      have hro := HR.out.at_ hom
      rw [← hr] at hro
      have HRR := Lib.hid hr
      clear hr
      have HRO := Lib.hid hro
      go_wp2_with fail
      refine (inTop_yes (o : Int) 0 ((m : Int) - 1) _ (by omega) (by omega)).mono ?_
      rintro e w' ⟨rfl, rfl⟩
      go_wp2_with fail
      refine (inTop_yes (r : Int) 0 ((m : Int) - 1) _ (by omega) (by omega)).mono ?_
      rintro e w' ⟨rfl, rfl⟩
      clear hro
      obtain ⟨wz, hwz⟩ : ∃ wz, wz = w7 := ⟨_, rfl⟩
      obtain rfl := hwz
      go_wp2
      go_loopg [21] m (fun gk iv wr => ∃ i : Nat, gk + i = m ∧ iv = .int .i64 i ∧ Below wz.heap.size wz wr)
      case atStart => exact ⟨0, by omega, rfl, Below.refl _ _⟩
      case round =>
        obtain ⟨gi, rfl⟩ : ∃ gi, gi = gk := ⟨_, rfl⟩
        obtain ⟨i, hgi, rfl, hbel⟩ := hrel
        have HBI := Lib.hid hbel; clear hbel
        have c4 := (HBI.out.cell (p := ⟨gr, fr + o, none⟩) (World.block_lt_of_cell? wz _ HRO.out)).trans HRO.out
        by_cases hlt : i < m
        · have hii : (i : Int) < (m : Int) := by omega
          have hi0 : (0 : Int) ≤ (i : Int) := by omega
          obtain ⟨b1, o1, rfl, -, c1⟩ := (HX7.out.below HBI.out) i _ (arr_get hlt)
          obtain ⟨b2, o2, rfl, -, c2⟩ := (HY7.out.below HBI.out) i _ (arr_get hlt)
          have c3 := (HR.out.below HBI.out).at_ hlt
          obtain ⟨cn, hcn⟩ : ∃ cn, cn = copies m L o i := ⟨_, rfl⟩
          rw [← hcn] at c1
          obtain ⟨fv, hfv⟩ : ∃ fv, fv = far (edges L) o i := ⟨_, rfl⟩
          rw [← hfv] at c2
          obtain ⟨ri, hri2⟩ : ∃ ri, ri = rootF m (edges L) i := ⟨_, rfl⟩
          rw [← hri2] at c3
          have hiff := root_rch HOK.out hom hlt
          rw [← hri2, ← HRR.out] at hiff
          by_cases hr : Rch L o i
          · have hfv0 : fv < 1000 := by rw [hfv, far_swap HOK.out.net]; exact hr
            have hrr : ri = r := hiff.2 hr
            have hrb : ((ri : Int) == (r : Int)) = true := by simp [hrr]
            have hrbN : (ri == r) = true := by simp [hrr]
            by_cases hio : i = o
            · have hq : ((i : Int) != (o : Int)) = false := by simp [hio]
              clear hcn hfv hio hr hiff hri2 hrr
              go_upto_region 15 with fail
              go_quiet (fail)
              have HQ9 := Lib.hid (HBI.out.trans (below_drewN wz.heap.size wr nq))
              clear c1 c2 c3 c4 HBI
              generalize wr.drewN nq = wn at *
              go_wp2
              go_roundg (gi - 1)
              case measure => omega
              case rel => exact ⟨i + 1, by omega, by go_num, HQ9.out⟩
            · have hq : ((i : Int) != (o : Int)) = true := by simp; omega
              have hcnN : 0 < cn := by rw [hcn]; exact (copies_pos HOK.out hom hlt hio).2 hr
              have hcnB : decide (0 < cn) = true := decide_eq_true hcnN
              have hcn0 : (0 : Int) < (cn : Int) := by omega
              clear hcn hfv hio hr hiff hri2 hrr
              go_upto_region 15 with fail
              go_quiet (fail)
              have HQ9 := Lib.hid (HBI.out.trans (below_drewN wz.heap.size wr nq))
              clear c1 c2 c3 c4 HBI
              generalize wr.drewN nq = wn at *
              go_wp2
              go_roundg (gi - 1)
              case measure => omega
              case rel => exact ⟨i + 1, by omega, by go_num, HQ9.out⟩
          · have hio : ¬ i = o := fun e => hr (by rw [e]; exact rch_self HOK.out o)
            have hq : ((i : Int) != (o : Int)) = true := by simp; omega
            have hcp := copies_pos HOK.out hom hlt hio
            have hcnB : decide (0 < cn) = false := decide_eq_false fun h => hr (hcp.1 (by omega))
            have hcn0 : decide ((0 : Int) < (cn : Int)) = false := decide_eq_false fun h => hr (hcp.1 (by omega))
            have hfv0 : decide (fv < 1000) = false := decide_eq_false fun h => hr (by show far (edges L) i o < 1000; rw [far_swap HOK.out.net, ← hfv]; exact h)
            have hrr : ¬ ri = r := fun h => hr (hiff.1 h)
            have hrb : ((ri : Int) == (r : Int)) = false := by simp; omega
            have hrbN : (ri == r) = false := by simp [hrr]
            clear hcn hfv hio hr hiff hri2 hrr hcp
            go_upto_region 15 with fail
            go_quiet (fail)
            have HQ9 := Lib.hid (HBI.out.trans (below_drewN wz.heap.size wr nq))
            clear c1 c2 c3 c4 HBI
            generalize wr.drewN nq = wn at *
            go_wp2
            go_roundg (gi - 1)
            case measure => omega
            case rel => exact ⟨i + 1, by omega, by go_num, HQ9.out⟩
        · have hii : decide ((i : Int) < (m : Int)) = false := decide_eq_false (by omega)
          clear c4
          obtain ⟨gm, om, rfl, -, m0, -, -⟩ := (HM7.out.below HBI.out) o hom
          unfold rowV at m0
          have hrow := mat_row (HM7.out.below HBI.out) hom
          rw [show arr (bell (edges L) 8 o) m = arr (far (edges L) o) m from rfl] at hrow
          obtain ⟨q1, hq1⟩ : ∃ q1, q1 = (P o).1 := ⟨_, rfl⟩
          obtain ⟨q2, hq2⟩ : ∃ q2, q2 = (P o).2.1 := ⟨_, rfl⟩
          obtain ⟨q3, hq3⟩ : ∃ q3, q3 = (P o).2.2 := ⟨_, rfl⟩
          rw [← hq1, ← hq2] at hrow
          rw [← hq1, ← hq2, ← hq3] at m0
          have hfar := HY7.out.below HBI.out
          have HC := Lib.hid (show ∀ k, Calls Try.prog 19 #[.slice (some ⟨q1, q2, none⟩) m q3, .slice af m cf] (wr.drewN k) fun e w' => e = .returned (.bool true) ∧ ∃ n, w' = (wr.drewN k).drewN n from fun k =>
            ints_any _ _ _ _ _ _ _ _ (arr (far (edges L) o) m) (arr (far (edges L) o) m) true _ (hrow.below (below_drewN _ _ _)) (hfar.below (below_drewN _ _ _)) (arr_len _ _).symm (arr_len _ _).symm (by rw [arr_len]; omega) (by simp))
          obtain ⟨b2, o2, rfl, -, d1⟩ := hfar r _ (arr_get hrm)
          have d2 := (HU.out.below HBI.out).at_ hom
          have d3 := (HBI.out.cell (p := ⟨gr, fr + o, none⟩) (World.block_lt_of_cell? wz _ HRO.out)).trans HRO.out
          rw [← HRR.out] at d2
          obtain ⟨dv, hdv⟩ : ∃ dv, dv = far (edges L) o r := ⟨_, rfl⟩
          rw [← hdv] at d1 d2
          have hdd : (dv == dv) = true := by simp
          have HB9 := Lib.hid (HB7.out.trans (HBI.out.mono hg7))
          clear hrow hfar hq1 hq2 hq3 hdv
          go_upto_region 17 with fail
          go_quiet (first | (go_at_call 19; exact quiet_dr (HC.out _) (fun n => drewN_two _ _ _)))
          go_wp2_with fail
          go_ret
          have hb9 := HB9.out.trans (below_drewN g wr nq)
          rw [HG.out] at hb9
          exact ⟨rfl, hb9⟩
    · have hfc : (1 : Int) = fCode m L f := by unfold fCode; rw [if_pos (vCode_nat.2 HOK.out), if_neg ho]
      have HFC := Lib.hid hfc
      have HO := Lib.hid ho
      clear hfc ho
      go_wp2_with fail
      refine (from_err m _ _ _ g L f 1 _ (HA.out.below HB3.out) rfl (by omega) hg3 HFC.out (by decide)).mono ?_
      rintro e w4 ⟨rfl, hb⟩
      have HB4 := Lib.hid (HB3.out.trans (hb.mono hg3))
      have hg4 : g ≤ w4.heap.size := Nat.le_trans hg3 hb.size
      clear hb
      go_wp2_with fail
      refine (flood_err m _ _ _ g L f 1 _ (HA.out.below HB4.out) rfl (by omega) hg4 HFC.out (by decide)).mono ?_
      rintro e w5 ⟨rfl, hb⟩
      have HB5 := Lib.hid (HB4.out.trans (hb.mono hg4))
      have hg5 : g ≤ w5.heap.size := Nat.le_trans hg4 hb.size
      clear hb
      go_wp2_with fail
      refine (tree_ok m _ _ _ g L _ (HA.out.below HB5.out) rfl hg5 HOK.out).mono ?_
      rintro e w7 ⟨vr, vu, vo, rfl, hs, hb⟩
      have HB7 := Lib.hid (HB5.out.trans (hb.mono hg5))
      clear hs hb
      go_wp2_with fail
      refine (inTop_no _ _ _ _ HO.out).mono ?_
      rintro e w' ⟨rfl, rfl⟩
      go_wp2
      go_ret
      have hb9 := HB7.out
      rw [HG.out] at hb9
      exact ⟨rfl, hb9⟩
  · have hrc : c = rCode n L 8 := by unfold rCode; rw [if_neg (by rw [← hc]; exact hc0), hc]
    have hfc : c = fCode n L f := by unfold fCode; rw [if_neg (by rw [← hc]; exact hc0), hc]
    have HRC := Lib.hid hrc
    have HFC := Lib.hid hfc
    have HC := Lib.hid hc
    have HC0 := Lib.hid hc0
    clear hrc hfc hc hc0
    go_wp2_with fail
    refine (rounds_err n _ _ _ g L 8 c _ (HA.out.below HB1.out) rfl (by omega) hg1 HRC.out HC0.out).mono ?_
    rintro e w3 ⟨rfl, hb⟩
    have HB3 := Lib.hid (HB1.out.trans (hb.mono hg1))
    have hg3 : g ≤ w3.heap.size := Nat.le_trans hg1 hb.size
    clear hb
    go_wp2_with fail
    refine (from_err n _ _ _ g L f c _ (HA.out.below HB3.out) rfl (by omega) hg3 HFC.out HC0.out).mono ?_
    rintro e w4 ⟨rfl, hb⟩
    have HB4 := Lib.hid (HB3.out.trans (hb.mono hg3))
    have hg4 : g ≤ w4.heap.size := Nat.le_trans hg3 hb.size
    clear hb
    go_wp2_with fail
    refine (flood_err n _ _ _ g L f c _ (HA.out.below HB4.out) rfl (by omega) hg4 HFC.out HC0.out).mono ?_
    rintro e w5 ⟨rfl, hb⟩
    have HB5 := Lib.hid (HB4.out.trans (hb.mono hg4))
    have hg5 : g ≤ w5.heap.size := Nat.le_trans hg4 hb.size
    clear hb
    go_wp2_with fail
    refine (tree_err n _ _ _ g L c _ (HA.out.below HB5.out) rfl (by omega) hg5 HC.out HC0.out).mono ?_
    rintro e w7 ⟨rfl, hb⟩
    have HB7 := Lib.hid (HB5.out.trans (hb.mono hg5))
    clear hb
    go_wp2
    go_ret
    have hb9 := HB7.out
    rw [HG.out] at hb9
    exact ⟨rfl, hb9⟩
end Go.Proofs.Ytnmddgjgmdegoaa
