/- VectorSettles returns true: in fewer rounds than there are points nobody knows it better; no round makes it worse. -/
import Derived.Test.YtkheccnjcaljdaaVecFact
import Derived.Test.YtkheccnjcaljdaaIn3
namespace Go.Proofs.Ytkheccnjcaljdaa
open Go.RowKit
set_option linter.unusedVariables false

set_option maxHeartbeats 4000000 in
set_option maxRecDepth 100000 in
theorem vectorSettles_walk (n : Int) (ao : Option Addr) (ac : Nat) (L : List Lnk) (f : Int) (w : World) (hnb : -9223372036854775808 ≤ n ∧ n ≤ 9223372036854775807) (hA : RowSl w.heap.size w ao 3 (L.map lnkC)) (hac : L.length ≤ ac) (hmax : ac ≤ maxLen) (hgood : ∀ x ∈ L, LnkGood x)
    (_ : -9223372036854775808 ≤ f ∧ f ≤ 9223372036854775807) :
    Calls Try.prog 3 #[.int .i64 n, .slice ao L.length ac, .int .i64 f] w fun e w' => e = .returned (.bool true) ∧ Below w.heap.size w w' := by
  unfold maxLen at hmax
  have HA := Lib.hid hA; clear hA hgood
  obtain ⟨g, hg⟩ : ∃ g, g = w.heap.size := ⟨_, rfl⟩
  rw [← hg] at HA
  have HG := Lib.hid hg; clear hg
  obtain ⟨c, hc⟩ : ∃ c, c = vCode n L := ⟨_, rfl⟩
  by_cases hc0 : c = 0
  · obtain ⟨m, rfl, hok⟩ := vCode_zero.1 (hc.symm.trans hc0)
    clear hc hc0
    have hn8 := hok.n8
    have hn1 := hok.n1
    have HOK := Lib.hid hok; clear hok
    go_enter Try.func3, Try.ntmps3
    go_wp2_with fail
    refine (vectorFact_any _).mono ?_
    rintro e w1 ⟨rfl, hb⟩
    have HB1 := Lib.hid (show Below g w w1 by rw [HG.out]; exact hb); clear hb
    have hg1 : g ≤ w1.heap.size := by have := HB1.out.size; rw [← HG.out] at this; exact this
    go_wp2_with fail
    refine (settle_ok m _ _ _ g L _ (HA.out.below HB1.out) rfl hg1 HOK.out).mono ?_
    rintro e w2 ⟨k, rfl, hk, hq, _, hb⟩
    have HB2 := Lib.hid (HB1.out.trans (hb.mono hg1))
    have hg2 : g ≤ w2.heap.size := by have := HB2.out.size; rw [← HG.out] at this; exact this
    have HQ := Lib.hid hq
    have hkm : (k : Int) < (m : Int) := by omega
    have hk0 : decide ((k : Int) < 0) = false := decide_eq_false (by omega)
    have hkm2 : decide ((m : Int) ≤ (k : Int)) = false := decide_eq_false (by omega)
    have hkk : (0 : Int) ≤ (k : Int) := by omega
    have hmk : ¬ m ≤ k := by omega
    clear hq hb
    by_cases hf : 0 ≤ f ∧ f ≤ 19
    · obtain ⟨t, rfl⟩ := Int.eq_ofNat_of_zero_le hf.1
      have ht19 : t ≤ 19 := by omega
      obtain ⟨f1, f2⟩ := hf
      go_wp2_with fail
      refine (in3_yes (t : Int) 0 19 _ f1 f2).mono ?_
      rintro e w' ⟨rfl, rfl⟩
      go_wp2_with fail
      refine (rounds_ok m _ _ _ g L t _ (HA.out.below HB2.out) rfl hg2 HOK.out (by omega)).mono ?_
      rintro e w3 ⟨va, Pa, rfl, hs, hb⟩
      have hs' : Sep w2.heap.size w3 ([] ++ (matE va Pa m m (bell (edges L) t) ++ [])) := by rw [List.append_nil]; exact hs
      obtain ⟨aa, ca, rfl, hca, _⟩ := mat_out hs'
      have HMA := Lib.hid (mat_read hs' (by omega))
      have HB3 := Lib.hid (HB2.out.trans (hb.mono hg2))
      have hg3 : g ≤ w3.heap.size := by have := HB3.out.size; rw [← HG.out] at this; exact this
      clear hs hs' hb
      have HT1 := Lib.hid (show (t : Int) + 1 = ((t + 1 : Nat) : Int) by omega)
      go_wp2_with fail
      rw [HT1.out]
      refine (rounds_ok m _ _ _ g L (t + 1) _ (HA.out.below HB3.out) rfl hg3 HOK.out (by omega)).mono ?_
      rintro e w4 ⟨vb, Pb, rfl, hs, hb⟩
      have hs' : Sep w3.heap.size w4 ([] ++ (matE vb Pb m m (bell (edges L) (t + 1)) ++ [])) := by rw [List.append_nil]; exact hs
      obtain ⟨ab, cb, rfl, hcb, _⟩ := mat_out hs'
      have HMB := Lib.hid (mat_read hs' (by omega))
      have HMA4 := Lib.hid ((HMA.out.below hb).mono hb.size)
      have HB4 := Lib.hid (HB3.out.trans (hb.mono hg3))
      have hg4 : g ≤ w4.heap.size := by have := HB4.out.size; rw [← HG.out] at this; exact this
      clear hs hs' hb HMA
      obtain ⟨ga, oa, rfl, _⟩ := HMA4.out 0 (by omega)
      obtain ⟨gb, ob, rfl, _⟩ := HMB.out 0 (by omega)
      have hcell : ∀ W, Below w4.heap.size w4 W → ∀ i, i < m → W.cell? ⟨ga, oa + i, none⟩ = some (rowV Pa m i) ∧ W.cell? ⟨gb, ob + i, none⟩ = some (rowV Pb m i) ∧
          ∀ j, j < m → W.cell? ⟨(Pa i).1, (Pa i).2.1 + j, none⟩ = some (.int .i64 (bell (edges L) t i j)) ∧ W.cell? ⟨(Pb i).1, (Pb i).2.1 + j, none⟩ = some (.int .i64 (bell (edges L) (t + 1) i j)) := fun W hW i hi => by
        obtain ⟨g1, o1, e1, _, a1, _, a2⟩ := (HMA4.out.below hW) i hi
        obtain ⟨g2, o2, e2, _, b1, _, b2⟩ := (HMB.out.below hW) i hi
        simp only [Option.some.injEq, Addr.mk.injEq, and_true] at e1 e2
        obtain ⟨rfl, rfl⟩ := e1
        obtain ⟨rfl, rfl⟩ := e2
        exact ⟨a1, b1, fun j hj => ⟨a2 j hj, b2 j hj⟩⟩
      have HCELL := Lib.hid hcell; clear hcell
      have hmm : ((m : Int) != (m : Int)) = false := by simp
      have hquiet : k ≤ t → ∀ i j, i < m → j < m → bell (edges L) t i j = bell (edges L) (t + 1) i j := fun h i j hi hj => by
        have := quiet_from HOK.out.net HQ.out (t - k) i j hi hj
        rw [show k + (t - k) = t by omega] at this
        exact this
      have HQT := Lib.hid hquiet; clear hquiet HT1
      go_wp2
      go_loopg [14] m (fun gk iv wr => ∃ i : Nat, gk + i = m ∧ iv = .int .i64 i ∧ Below w4.heap.size w4 wr)
      case atStart => exact ⟨0, by omega, rfl, Below.refl _ _⟩
      case round =>
        obtain ⟨gi, rfl⟩ : ∃ gi, gi = gk := ⟨_, rfl⟩
        obtain ⟨i, hgi, rfl, hbel⟩ := hrel
        have HBI := Lib.hid hbel; clear hbel
        by_cases hlt : i < m
        · have hii : (i : Int) < (m : Int) := by omega
          have hi0 : (0 : Int) ≤ (i : Int) := by omega
          obtain ⟨c1, c2, _⟩ := HCELL.out wr HBI.out i hlt
          unfold rowV at c1 c2
          go_wp2
          clear c1 c2
          go_loopg [15] m (fun gk jv wr => ∃ j : Nat, gk + j = m ∧ jv = .int .i64 j ∧ Below w4.heap.size w4 wr)
          case atStart => exact ⟨0, by omega, rfl, HBI.out⟩
          case round =>
            obtain ⟨gj, rfl⟩ : ∃ gj, gj = gk := ⟨_, rfl⟩
            obtain ⟨j, hgj, rfl, hbel⟩ := hrel
            have HBJ := Lib.hid hbel; clear hbel
            by_cases hjl : j < m
            · have hji : (j : Int) < (m : Int) := by omega
              have hj0 : (0 : Int) ≤ (j : Int) := by omega
              obtain ⟨c1, c2, c34⟩ := HCELL.out wr HBJ.out i hlt
              obtain ⟨c3, c4⟩ := c34 j hjl
              unfold rowV at c1 c2
              have hle := bell_falls HOK.out.net t i j
              have heq := fun h : k ≤ t => HQT.out h i j hlt hjl
              obtain ⟨x, hx⟩ : ∃ x, x = bell (edges L) t i j := ⟨_, rfl⟩
              obtain ⟨y, hy⟩ : ∃ y, y = bell (edges L) (t + 1) i j := ⟨_, rfl⟩
              rw [← hx] at c3 hle heq
              rw [← hy] at c4 hle heq
              have hd1 : decide (x < y) = false := decide_eq_false (by omega)
              clear hx hy c34
              by_cases hkt : k ≤ t
              · have hxy := heq hkt
                have hne : (y != x) = false := by simp [hxy]
                have hkd : decide ((k : Int) ≤ (t : Int)) = true := decide_eq_true (by omega)
                clear heq hxy
                go_wp2_with fail
                go_quiet (fail)
                have HBN := Lib.hid (HBJ.out.trans (below_drewN _ wr nq))
                clear c1 c2 c3 c4
                generalize wr.drewN nq = wn at *
                go_wp2
                go_roundg (gj - 1)
                case measure => omega
                case rel => exact ⟨j + 1, by omega, by first | rfl | go_num, HBN.out⟩
              · have hkd : decide ((k : Int) ≤ (t : Int)) = false := decide_eq_false (by omega)
                clear heq
                go_wp2_with fail
                go_quiet (fail)
                have HBN := Lib.hid (HBJ.out.trans (below_drewN _ wr nq))
                clear c1 c2 c3 c4
                generalize wr.drewN nq = wn at *
                go_wp2
                go_roundg (gj - 1)
                case measure => omega
                case rel => exact ⟨j + 1, by omega, by first | rfl | go_num, HBN.out⟩
            · have hji : decide ((j : Int) < (m : Int)) = false := decide_eq_false (by omega)
              go_wp2
              go_roundg (gi - 1)
              case measure => omega
              case rel => exact ⟨i + 1, by omega, by first | rfl | go_num, HBJ.out⟩
        · have hii : decide ((i : Int) < (m : Int)) = false := decide_eq_false (by omega)
          go_wp2
          go_ret
          exact ⟨rfl, by have := HB4.out.trans (HBI.out.mono hg4); rw [HG.out] at this; exact this⟩
    · have HF := Lib.hid hf; clear hf
      go_wp2_with fail
      refine (in3_no f 0 19 _ HF.out).mono ?_
      rintro e w' ⟨rfl, rfl⟩
      go_wp2
      go_ret
      exact ⟨rfl, by have := HB2.out; rw [HG.out] at this; exact this⟩
  · have HC := Lib.hid hc; clear hc
    have H0 := Lib.hid hc0; clear hc0
    go_enter Try.func3, Try.ntmps3
    go_wp2_with fail
    refine (vectorFact_any _).mono ?_
    rintro e w1 ⟨rfl, hb⟩
    have HB1 := Lib.hid (show Below g w w1 by rw [HG.out]; exact hb); clear hb
    have hg1 : g ≤ w1.heap.size := by have := HB1.out.size; rw [← HG.out] at this; exact this
    go_wp2_with fail
    refine (settle_err _ _ _ _ _ L c _ hnb (HA.out.below HB1.out) rfl (by omega) hg1 HC.out H0.out).mono ?_
    rintro e w2 ⟨rfl, hb⟩
    have HB2 := Lib.hid (HB1.out.trans (hb.mono hg1)); clear hb
    go_wp2
    go_ret
    exact ⟨rfl, by have := HB2.out; rw [HG.out] at this; exact this⟩
end Go.Proofs.Ytkheccnjcaljdaa
