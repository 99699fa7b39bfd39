/- RpfAll returns true: just who can be reached is told, and no more copies are sent than two over each pair of neighbours. -/
import Derived.Test.YtnmddgjgmdegoaaRpfFact
import Derived.Test.YtnmddgjgmdegoaaCost
import Derived.Test.YtnmddgjgmdegoaaSum
import Derived.Deep.LoopGhost
import Derived.BigQuiet
namespace Go.Proofs.Ytnmddgjgmdegoaa
open Go.RowKit
set_option linter.unusedVariables false

theorem arr_sum (f : Nat → Nat) : ∀ n, (arr (fun i => (f i : Int)) n).sum = ((psum f n : Nat) : Int)
  | 0 => rfl
  | n + 1 => by
    have ih := arr_sum f n
    unfold arr at ih ⊢
    rw [List.range_succ, List.map_append, List.sum_append, ih, psum]
    simp
theorem pairs_few (L : List Lnk) {n : Nat} (h : n ≤ 8) : pairsTo L n ≤ 64 := by
  have h1 : pairsTo L n ≤ psum (fun _ => 8) n := psum_mono fun i hi => by
    have := psum_le (adj L i) 1 (fun k => by unfold adj; split <;> omega) i
    omega
  have h2 := psum_le (fun _ => 8) 8 (fun _ => Nat.le_refl _) n
  omega
theorem pairs_next (L : List Lnk) (i : Nat) : pairsTo L i + psum (adj L i) i = pairsTo L (i + 1) := rfl
set_option maxHeartbeats 4000000 in
set_option maxRecDepth 100000 in
theorem rpfAll_walk (n : Int) (ao : Option Addr) (ac : Nat) (L : List Lnk) (f : Int) (w : World) (hnb : -9223372036854775808 ≤ n ∧ n ≤ 9223372036854775807) (hA : RowSl w.heap.size w ao 3 (L.map lnkC)) (hac : L.length ≤ ac) (hmax : ac ≤ maxLen) (hgood : ∀ x ∈ L, LnkGood x)
    (_ : -9223372036854775808 ≤ f ∧ f ≤ 9223372036854775807) :
    Calls Try.prog 5 #[.int .i64 n, .slice ao L.length ac, .int .i64 f] w fun e w' => e = .returned (.bool true) ∧ Below w.heap.size w w' := by
  unfold maxLen at hmax
  have HA := Lib.hid hA; clear hA hgood
  obtain ⟨g, hg⟩ : ∃ g, g = w.heap.size := ⟨_, rfl⟩
  rw [← hg] at HA
  have HG := Lib.hid hg; clear hg
  have hci : Try.prog.cellsOf 3 = 1 := by kernel_rfl
  obtain ⟨c, hc⟩ : ∃ c, c = fCode n L f := ⟨_, rfl⟩
  by_cases hc0 : c = 0
  · obtain ⟨m, o, rfl, rfl, ho, hok⟩ := fCode_zero.1 (hc.symm.trans hc0)
    clear hc hc0
    have hn8 := hok.n8
    have hn1 := hok.n1
    have hl32 := hok.few
    have HOK := Lib.hid hok; clear hok
    go_enter Try.func5, Try.ntmps5
    go_wp2_with fail
    refine (rpfFact_any _).mono ?_
    rintro e w1 ⟨rfl, hb⟩
    have HB1 := Lib.hid (show Below g w w1 by rw [HG.out]; exact hb); clear hb
    have hg1 : g ≤ w1.heap.size := by have := HB1.out.size; rw [← HG.out] at this; exact this
    go_wp2_with fail
    refine (flood_ok m _ _ _ g L o _ (HA.out.below HB1.out) rfl hg1 HOK.out ho).mono ?_
    rintro e w2 ⟨vl, rfl, hs, hb⟩
    obtain ⟨al, cl, rfl, -, -⟩ := hs.intsShape (A := []) (C := [])
    have HX := Lib.hid (hs.intSl (A := []) (C := []))
    rw [arr_len]
    have HB2 := Lib.hid (HB1.out.trans (hb.mono hg1))
    have hg2 : g ≤ w2.heap.size := by have := HB2.out.size; rw [← HG.out] at this; exact this
    obtain ⟨sn, hsn⟩ : ∃ sn, sn = sentOf m L o := ⟨_, rfl⟩
    rw [← hsn]
    have HSN := Lib.hid hsn
    clear hs hb hsn
    go_wp2_with fail
    refine (from_ok m _ _ _ g L o _ (HA.out.below HB2.out) rfl hg2 HOK.out ho).mono ?_
    rintro e w4 ⟨vf, vh, hf, rfl, hhop, hs, hb⟩
    obtain ⟨af, cf, rfl, -, -⟩ := hs.intsShape (A := []) (C := [_])
    obtain ⟨ah, ch, rfl, -, -⟩ := hs.intsShape (A := [_]) (C := [])
    have HY := Lib.hid (hs.intSl (A := []) (C := [_]))
    rw [arr_len]
    have HX4 := Lib.hid ((HX.out.below hb).mono hb.size)
    have HB4 := Lib.hid (HB2.out.trans (hb.mono hg2))
    have hg4 : g ≤ w4.heap.size := by have := HB4.out.size; rw [← HG.out] at this; exact this
    have hmm : ((m : Int) != (m : Int)) = false := by simp
    clear hs hb hhop HX
    go_wp2
    go_loopg [13, 14] m (fun gk pv iv wr => ∃ i : Nat, gk + i = m ∧ pv = .int .i64 ((pairsTo L i : Nat) : Int) ∧ iv = .int .i64 i ∧ Below w4.heap.size w4 wr)
    case atStart => exact ⟨0, by omega, rfl, rfl, Below.refl _ _⟩
    case round =>
      obtain ⟨gi, rfl⟩ : ∃ gi, gi = gk := ⟨_, rfl⟩
      obtain ⟨i, hgi, rfl, rfl, hbel⟩ := hrel
      have HBI := Lib.hid hbel; clear hbel
      obtain ⟨pn, hpn⟩ : ∃ pn, pn = pairsTo L i := ⟨_, rfl⟩
      rw [← hpn]
      have hpnb : pn ≤ 64 := by rw [hpn]; exact pairs_few L (by omega)
      have HPN := Lib.hid hpn
      clear hpn
      by_cases hlt : i < m
      · have hii : (i : Int) < (m : Int) := by omega
        have hi0 : (0 : Int) ≤ (i : Int) := by omega
        obtain ⟨b1, o1, rfl, -, c1⟩ := (HX4.out.below HBI.out) i _ (arr_get hlt)
        obtain ⟨b2, o2, rfl, -, c2⟩ := (HY.out.below HBI.out) i _ (arr_get hlt)
        obtain ⟨cn, hcn⟩ : ∃ cn, cn = copies m L o i := ⟨_, rfl⟩
        rw [← hcn] at c1
        obtain ⟨fv, hfv⟩ : ∃ fv, fv = far (edges L) o i := ⟨_, rfl⟩
        rw [← hfv] at c2
        by_cases hio : i = o
        · have hq : ((i : Int) != (o : Int)) = false := by simp [hio]
          clear hcn hfv hio
          go_upto_region 14 with fail
          go_quiet (fail)
          have HQ4 := Lib.hid (HBI.out.trans (below_drewN w4.heap.size wr nq))
          clear c1 c2 HBI
          generalize wr.drewN nq = wn at *
          go_wp2
          go_loopg [13, 15] i (fun gk pv kv wr => ∃ k : Nat, gk + k = i ∧ pv = .int .i64 ((pn + psum (adj L i) k : Nat) : Int) ∧ kv = .int .i64 k ∧ Below w4.heap.size w4 wr)
          case atStart => exact ⟨0, by omega, rfl, rfl, HQ4.out⟩
          case round =>
            obtain ⟨gl, rfl⟩ : ∃ gl, gl = gk := ⟨_, rfl⟩
            obtain ⟨k, hgl, rfl, rfl, hbel⟩ := hrel
            have HBK := Lib.hid hbel; clear hbel
            obtain ⟨pk, hpk⟩ : ∃ pk, pk = pn + psum (adj L i) k := ⟨_, rfl⟩
            rw [← hpk]
            have HPK := Lib.hid hpk
            have hpb : pk ≤ 200 := by
              have := psum_le (adj L i) 1 (fun k => by unfold adj; split <;> omega) k
              omega
            clear hpk
            by_cases hkl : k < i
            · have hki : (k : Int) < (i : Int) := by omega
              have hlr := (HA.out.below (HB4.out.trans (HBK.out.mono hg4)))
              have HLR := Lib.hid hlr; clear hlr
              go_wp2_with fail
              refine (cost_any _ _ _ _ L (i : Int) (k : Int) _ HLR.out rfl (by omega)).mono ?_
              rintro e w' ⟨rfl, rfl⟩
              obtain ⟨cv, hcv⟩ : ∃ cv, cv = cst L i k := ⟨_, rfl⟩
              have hcv' : cstI (i : Int) (k : Int) L 1000 = cv := by rw [hcv]; rfl
              rw [hcv']
              clear hcv'
              by_cases hc : cv < 1000
              · have e1 : pk + 1 = pn + psum (adj L i) (k + 1) := by
                  rw [HPK.out, psum]
                  have : adj L i k = 1 := by unfold adj; rw [← hcv, if_pos hc]
                  omega
                have HE1 := Lib.hid e1
                clear hcv e1
                go_wp2
                go_roundg (gl - 1)
                case measure => omega
                case rel => exact ⟨k + 1, by omega, by rw [← HE1.out]; go_num, by go_num, HBK.out⟩
              · have hcf : decide (cv < 1000) = false := decide_eq_false hc
                have e1 : pk = pn + psum (adj L i) (k + 1) := by
                  rw [HPK.out, psum]
                  have : adj L i k = 0 := by unfold adj; rw [← hcv, if_neg hc]
                  omega
                have HE1 := Lib.hid e1
                clear hcv hc e1
                go_wp2
                go_roundg (gl - 1)
                case measure => omega
                case rel => exact ⟨k + 1, by omega, by rw [← HE1.out], by go_num, HBK.out⟩
            · have hkd : decide ((k : Int) < (i : Int)) = false := decide_eq_false (by omega)
              obtain rfl : k = i := by omega
              have e1 : pk = pairsTo L (k + 1) := by rw [HPK.out, HPN.out]; rfl
              have HE1 := Lib.hid e1
              clear e1
              go_wp2
              go_roundg (gi - 1)
              case measure => omega
              case rel => exact ⟨k + 1, by omega, by rw [← HE1.out], by go_num, HBK.out⟩
        · have hq : ((i : Int) != (o : Int)) = true := by simp; omega
          have hcp := copies_pos HOK.out ho hlt hio
          by_cases hr : Rch L o i
          · have hcnN : 0 < cn := by rw [hcn]; exact hcp.2 hr
            have hcnB : decide (0 < cn) = true := decide_eq_true hcnN
            have hcn0 : (0 : Int) < (cn : Int) := by omega
            have hfv0 : fv < 1000 := by rw [hfv, far_swap HOK.out.net]; exact hr
            clear hcn hfv hio hcp hr
            go_upto_region 14 with fail
            go_quiet (fail)
            have HQ4 := Lib.hid (HBI.out.trans (below_drewN w4.heap.size wr nq))
            clear c1 c2 HBI
            generalize wr.drewN nq = wn at *
            go_wp2
            go_loopg [13, 15] i (fun gk pv kv wr => ∃ k : Nat, gk + k = i ∧ pv = .int .i64 ((pn + psum (adj L i) k : Nat) : Int) ∧ kv = .int .i64 k ∧ Below w4.heap.size w4 wr)
            case atStart => exact ⟨0, by omega, rfl, rfl, HQ4.out⟩
            case round =>
              obtain ⟨gl, rfl⟩ : ∃ gl, gl = gk := ⟨_, rfl⟩
              obtain ⟨k, hgl, rfl, rfl, hbel⟩ := hrel
              have HBK := Lib.hid hbel; clear hbel
              obtain ⟨pk, hpk⟩ : ∃ pk, pk = pn + psum (adj L i) k := ⟨_, rfl⟩
              rw [← hpk]
              have HPK := Lib.hid hpk
              have hpb : pk ≤ 200 := by
                have := psum_le (adj L i) 1 (fun k => by unfold adj; split <;> omega) k
                omega
              clear hpk
              by_cases hkl : k < i
              · have hki : (k : Int) < (i : Int) := by omega
                have hlr := (HA.out.below (HB4.out.trans (HBK.out.mono hg4)))
                have HLR := Lib.hid hlr; clear hlr
                go_wp2_with fail
                refine (cost_any _ _ _ _ L (i : Int) (k : Int) _ HLR.out rfl (by omega)).mono ?_
                rintro e w' ⟨rfl, rfl⟩
                obtain ⟨cv, hcv⟩ : ∃ cv, cv = cst L i k := ⟨_, rfl⟩
                have hcv' : cstI (i : Int) (k : Int) L 1000 = cv := by rw [hcv]; rfl
                rw [hcv']
                clear hcv'
                by_cases hc : cv < 1000
                · have e1 : pk + 1 = pn + psum (adj L i) (k + 1) := by
                    rw [HPK.out, psum]
                    have : adj L i k = 1 := by unfold adj; rw [← hcv, if_pos hc]
                    omega
                  have HE1 := Lib.hid e1
                  clear hcv e1
                  go_wp2
                  go_roundg (gl - 1)
                  case measure => omega
                  case rel => exact ⟨k + 1, by omega, by rw [← HE1.out]; go_num, by go_num, HBK.out⟩
                · have hcf : decide (cv < 1000) = false := decide_eq_false hc
                  have e1 : pk = pn + psum (adj L i) (k + 1) := by
                    rw [HPK.out, psum]
                    have : adj L i k = 0 := by unfold adj; rw [← hcv, if_neg hc]
                    omega
                  have HE1 := Lib.hid e1
                  clear hcv hc e1
                  go_wp2
                  go_roundg (gl - 1)
                  case measure => omega
                  case rel => exact ⟨k + 1, by omega, by rw [← HE1.out], by go_num, HBK.out⟩
              · have hkd : decide ((k : Int) < (i : Int)) = false := decide_eq_false (by omega)
                obtain rfl : k = i := by omega
                have e1 : pk = pairsTo L (k + 1) := by rw [HPK.out, HPN.out]; rfl
                have HE1 := Lib.hid e1
                clear e1
                go_wp2
                go_roundg (gi - 1)
                case measure => omega
                case rel => exact ⟨k + 1, by omega, by rw [← HE1.out], by go_num, HBK.out⟩
          · have hcnB : decide (0 < cn) = false := decide_eq_false fun h => hr (hcp.1 (by omega))
            have hcn0 : decide ((0 : Int) < (cn : Int)) = false := decide_eq_false fun h => hr (hcp.1 (by omega))
            have hfv0 : decide (fv < 1000) = false := decide_eq_false fun h => hr (by show far (edges L) i o < 1000; rw [far_swap HOK.out.net, ← hfv]; exact h)
            clear hcn hfv hio hcp hr
            go_upto_region 14 with fail
            go_quiet (fail)
            have HQ4 := Lib.hid (HBI.out.trans (below_drewN w4.heap.size wr nq))
            clear c1 c2 HBI
            generalize wr.drewN nq = wn at *
            go_wp2
            go_loopg [13, 15] i (fun gk pv kv wr => ∃ k : Nat, gk + k = i ∧ pv = .int .i64 ((pn + psum (adj L i) k : Nat) : Int) ∧ kv = .int .i64 k ∧ Below w4.heap.size w4 wr)
            case atStart => exact ⟨0, by omega, rfl, rfl, HQ4.out⟩
            case round =>
              obtain ⟨gl, rfl⟩ : ∃ gl, gl = gk := ⟨_, rfl⟩
              obtain ⟨k, hgl, rfl, rfl, hbel⟩ := hrel
              have HBK := Lib.hid hbel; clear hbel
              obtain ⟨pk, hpk⟩ : ∃ pk, pk = pn + psum (adj L i) k := ⟨_, rfl⟩
              rw [← hpk]
              have HPK := Lib.hid hpk
              have hpb : pk ≤ 200 := by
                have := psum_le (adj L i) 1 (fun k => by unfold adj; split <;> omega) k
                omega
              clear hpk
              by_cases hkl : k < i
              · have hki : (k : Int) < (i : Int) := by omega
                have hlr := (HA.out.below (HB4.out.trans (HBK.out.mono hg4)))
                have HLR := Lib.hid hlr; clear hlr
                go_wp2_with fail
                refine (cost_any _ _ _ _ L (i : Int) (k : Int) _ HLR.out rfl (by omega)).mono ?_
                rintro e w' ⟨rfl, rfl⟩
                obtain ⟨cv, hcv⟩ : ∃ cv, cv = cst L i k := ⟨_, rfl⟩
                have hcv' : cstI (i : Int) (k : Int) L 1000 = cv := by rw [hcv]; rfl
                rw [hcv']
                clear hcv'
                by_cases hc : cv < 1000
                · have e1 : pk + 1 = pn + psum (adj L i) (k + 1) := by
                    rw [HPK.out, psum]
                    have : adj L i k = 1 := by unfold adj; rw [← hcv, if_pos hc]
                    omega
                  have HE1 := Lib.hid e1
                  clear hcv e1
                  go_wp2
                  go_roundg (gl - 1)
                  case measure => omega
                  case rel => exact ⟨k + 1, by omega, by rw [← HE1.out]; go_num, by go_num, HBK.out⟩
                · have hcf : decide (cv < 1000) = false := decide_eq_false hc
                  have e1 : pk = pn + psum (adj L i) (k + 1) := by
                    rw [HPK.out, psum]
                    have : adj L i k = 0 := by unfold adj; rw [← hcv, if_neg hc]
                    omega
                  have HE1 := Lib.hid e1
                  clear hcv hc e1
                  go_wp2
                  go_roundg (gl - 1)
                  case measure => omega
                  case rel => exact ⟨k + 1, by omega, by rw [← HE1.out], by go_num, HBK.out⟩
              · have hkd : decide ((k : Int) < (i : Int)) = false := decide_eq_false (by omega)
                obtain rfl : k = i := by omega
                have e1 : pk = pairsTo L (k + 1) := by rw [HPK.out, HPN.out]; rfl
                have HE1 := Lib.hid e1
                clear e1
                go_wp2
                go_roundg (gi - 1)
                case measure => omega
                case rel => exact ⟨k + 1, by omega, by rw [← HE1.out], by go_num, HBK.out⟩
      · have hii : decide ((i : Int) < (m : Int)) = false := decide_eq_false (by omega)
        have him : i = m := by omega
        have hle : sn ≤ 2 * pn := by rw [HSN.out, HPN.out, him]; exact sent_le HOK.out
        have hleI : (sn : Int) ≤ 2 * (pn : Int) := by omega
        have hsum : (arr (fun i => (copies m L o i : Int)) m).sum = (sn : Int) := by rw [arr_sum, HSN.out]; rfl
        have HSUM := Lib.hid hsum
        have HX5 := Lib.hid (HX4.out.below HBI.out)
        have HB5 := Lib.hid (HB4.out.trans (HBI.out.mono hg4))
        have hee : ((sn : Int) == (sn : Int)) = true := by simp
        clear him hle hsum
        go_wp2_with fail
        refine (sum_any _ _ _ _ _ _ HX5.out (arr_len _ _).symm (by rw [arr_len]; omega) (fun x hx => by
          obtain ⟨j, hj⟩ := List.mem_iff_getElem?.1 hx
          by_cases hjm : j < m
          · rw [arr_get hjm] at hj
            have := Option.some.inj hj
            have h2 := copies_le (n := m) (L := L) (o := o) j
            omega
          · rw [List.getElem?_eq_none (by rw [arr_len]; omega)] at hj; cases hj)).mono ?_
        rintro e w' ⟨rfl, rfl⟩
        rw [HSUM.out]
        go_wp2
        go_ret
        have hb9 := HB5.out
        rw [HG.out] at hb9
        exact ⟨rfl, hb9⟩
  · have HC := Lib.hid hc
    have HC0 := Lib.hid hc0
    clear hc hc0
    go_enter Try.func5, Try.ntmps5
    go_wp2_with fail
    refine (rpfFact_any _).mono ?_
    rintro e w1 ⟨rfl, hb⟩
    have HB1 := Lib.hid (show Below g w w1 by rw [HG.out]; exact hb); clear hb
    have hg1 : g ≤ w1.heap.size := by have := HB1.out.size; rw [← HG.out] at this; exact this
    go_wp2_with fail
    refine (flood_err n _ _ _ g L f c _ (HA.out.below HB1.out) rfl (by omega) hg1 HC.out HC0.out).mono ?_
    rintro e w2 ⟨rfl, hb⟩
    have HB2 := Lib.hid (HB1.out.trans (hb.mono hg1))
    clear hb
    go_wp2
    go_ret
    have hb9 := HB2.out
    rw [HG.out] at hb9
    exact ⟨rfl, hb9⟩
end Go.Proofs.Ytnmddgjgmdegoaa
