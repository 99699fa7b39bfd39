/- VectorBoth returns true: it is as far there as back, and no farther than over any third one. -/
import Derived.Test.YtkheccnjcaljdaaVecFact
namespace Go.Proofs.Ytkheccnjcaljdaa
open Go.RowKit
set_option linter.unusedVariables false

set_option maxHeartbeats 4000000 in
set_option maxRecDepth 100000 in
theorem vectorBoth_walk (n : Int) (ao : Option Addr) (ac : Nat) (L : List Lnk) (w : World) (hnb : -9223372036854775808 ≤ n ∧ n ≤ 9223372036854775807) (hA : RowSl w.heap.size w ao 3 (L.map lnkC)) (hac : L.length ≤ ac) (hmax : ac ≤ maxLen) (hgood : ∀ x ∈ L, LnkGood x) :
    Calls Try.prog 4 #[.int .i64 n, .slice ao L.length ac] w fun e w' => e = .returned (.bool true) ∧ Below w.heap.size w w' := by
  unfold maxLen at hmax
  have HA := Lib.hid hA; clear hA hgood
  obtain ⟨g, hg⟩ : ∃ g, g = w.heap.size := ⟨_, rfl⟩
  rw [← hg] at HA
  have HG := Lib.hid hg; clear hg
  obtain ⟨c, hc⟩ : ∃ c, c = rCode n L 8 := ⟨_, rfl⟩
  by_cases hc0 : c = 0
  · obtain ⟨m, k8, rfl, e8, e20, hok⟩ := rCode_zero.1 (hc.symm.trans hc0)
    clear e8 e20
    clear hc hc0
    have hn8 := hok.n8
    have hn1 := hok.n1
    have HOK := Lib.hid hok; clear hok
    go_enter Try.func4, Try.ntmps4
    go_wp2_with fail
    refine (vectorFact_any _).mono ?_
    rintro e w1 ⟨rfl, hb⟩
    have HB1 := Lib.hid (show Below g w w1 by rw [HG.out]; exact hb); clear hb
    have hg1 : g ≤ w1.heap.size := by have := HB1.out.size; rw [← HG.out] at this; exact this
    go_wp2_with fail
    refine (rounds_ok m _ _ _ g L 8 _ (HA.out.below HB1.out) rfl hg1 HOK.out (by decide)).mono ?_
    rintro e w2 ⟨va, Pa, rfl, hs, hb⟩
    have hs' : Sep w1.heap.size w2 ([] ++ (matE va Pa m m (bell (edges L) 8) ++ [])) := by rw [List.append_nil]; exact hs
    obtain ⟨aa, ca, rfl, hca, _⟩ := mat_out hs'
    have HMA := Lib.hid (mat_read hs' (by omega))
    have HB2 := Lib.hid (HB1.out.trans (hb.mono hg1))
    have hg2 : g ≤ w2.heap.size := by have := HB2.out.size; rw [← HG.out] at this; exact this
    clear hs hs' hb
    obtain ⟨ga, oa, rfl, _⟩ := HMA.out 0 (by omega)
    have hcell : ∀ W, Below w2.heap.size w2 W → ∀ i, i < m → W.cell? ⟨ga, oa + i, none⟩ = some (rowV Pa m i) ∧ ∀ j, j < m → W.cell? ⟨(Pa i).1, (Pa i).2.1 + j, none⟩ = some (.int .i64 (far (edges L) i j)) := fun W hW i hi => by
      obtain ⟨g1, o1, e1, _, a1, _, a2⟩ := (HMA.out.below hW) i hi
      simp only [Option.some.injEq, Addr.mk.injEq, and_true] at e1
      obtain ⟨rfl, rfl⟩ := e1
      exact ⟨a1, fun j hj => a2 j hj⟩
    have HCELL := Lib.hid hcell; clear hcell
    have hmm : ((m : Int) != (m : Int)) = false := by simp
    go_wp2
    go_loopg [8] m (fun gk iv wr => ∃ i : Nat, gk + i = m ∧ iv = .int .i64 i ∧ Below w2.heap.size w2 wr)
    case atStart => exact ⟨0, by omega, rfl, Below.refl _ _⟩
    case round =>
      obtain ⟨gi, rfl⟩ : ∃ gi, gi = gk := ⟨_, rfl⟩
      obtain ⟨i, hgi, rfl, hbel⟩ := hrel
      have HBI := Lib.hid hbel; clear hbel
      by_cases hlt : i < m
      · have hii : (i : Int) < (m : Int) := by omega
        have hi0 : (0 : Int) ≤ (i : Int) := by omega
        obtain ⟨c1, d2⟩ := HCELL.out wr HBI.out i hlt
        have c2 := d2 i hlt
        clear d2
        rw [far_self HOK.out.net] at c2
        unfold rowV at c1
        go_wp2
        go_roundg (gi - 1)
        case measure => omega
        case rel => exact ⟨i + 1, by omega, by first | rfl | go_num, HBI.out⟩
      · have hii : decide ((i : Int) < (m : Int)) = false := decide_eq_false (by omega)
        clear hgi
        go_wp2
        go_loopg [9] m (fun gk iv wr => ∃ i : Nat, gk + i = m ∧ iv = .int .i64 i ∧ Below w2.heap.size w2 wr)
        case atStart => exact ⟨0, by omega, rfl, HBI.out⟩
        case round =>
          obtain ⟨gi, rfl⟩ : ∃ gi, gi = gk := ⟨_, rfl⟩
          obtain ⟨i, hgi, rfl, hbel⟩ := hrel
          have HBJ := Lib.hid hbel; clear hbel
          by_cases hlt : i < m
          · have hii : (i : Int) < (m : Int) := by omega
            have hi0 : (0 : Int) ≤ (i : Int) := by omega
            go_wp2
            go_loopg [10] m (fun gk jv wr => ∃ j : Nat, gk + j = m ∧ jv = .int .i64 j ∧ Below w2.heap.size w2 wr)
            case atStart => exact ⟨0, by omega, rfl, HBJ.out⟩
            case round =>
              obtain ⟨gj, rfl⟩ : ∃ gj, gj = gk := ⟨_, rfl⟩
              obtain ⟨j, hgj, rfl, hbel⟩ := hrel
              have HBK := Lib.hid hbel; clear hbel
              by_cases hjl : j < m
              · have hji : (j : Int) < (m : Int) := by omega
                have hj0 : (0 : Int) ≤ (j : Int) := by omega
                obtain ⟨c1, d3⟩ := HCELL.out wr HBK.out i hlt
                obtain ⟨c2, d4⟩ := HCELL.out wr HBK.out j hjl
                have c3 := d3 j hjl
                have c4 := d4 i hlt
                clear d3 d4
                rw [far_swap HOK.out.net] at c4
                unfold rowV at c1 c2
                have hap := fun h : i ≠ j => far_apart HOK.out.net hn8 hjl h
                obtain ⟨x, hx⟩ : ∃ x, x = far (edges L) i j := ⟨_, rfl⟩
                rw [← hx] at c3 c4 hap
                have hxx : (x != x) = false := by simp
                have HX := Lib.hid hx; clear hx
                by_cases hij : i = j
                · have hne : ((i : Int) != (j : Int)) = false := by simp [hij]
                  clear hap hij
                  go_wp2_with fail
                  go_quiet (fail)
                  have HBN := Lib.hid (HBK.out.trans (below_drewN _ wr nq))
                  clear c1 c2 c3 c4
                  generalize wr.drewN nq = wn at *
                  go_wp2
                  go_loopg [11] m (fun gk kv wr => ∃ k : Nat, gk + k = m ∧ kv = .int .i64 k ∧ Below w2.heap.size w2 wr)
                  case atStart => exact ⟨0, by omega, rfl, HBN.out⟩
                  case round =>
                    obtain ⟨gq, rfl⟩ : ∃ gq, gq = gk := ⟨_, rfl⟩
                    obtain ⟨k, hgq, rfl, hbel⟩ := hrel
                    have HBQ := Lib.hid hbel; clear hbel
                    by_cases hkl : k < m
                    · have hki : (k : Int) < (m : Int) := by omega
                      have hk0 : (0 : Int) ≤ (k : Int) := by omega
                      obtain ⟨c1, c3⟩ := HCELL.out wr HBQ.out i hlt
                      obtain ⟨c2, c4⟩ := HCELL.out wr HBQ.out k hkl
                      have c5 := c3 k hkl
                      have c6 := c4 j hjl
                      have c7 := c3 j hjl
                      unfold rowV at c1 c2
                      have htri := far_tri HOK.out.net hn8 (u := i) (w := k) (v := j) hkl hjl
                      have hy1 := far_le HOK.out.net (u := i) (v := k)
                      have hy2 := far_nonneg HOK.out.net (u := i) (v := k)
                      have hz1 := far_le HOK.out.net (u := k) (v := j)
                      have hz2 := far_nonneg HOK.out.net (u := k) (v := j)
                      obtain ⟨y, hy⟩ : ∃ y, y = far (edges L) i k := ⟨_, rfl⟩
                      obtain ⟨z, hz⟩ : ∃ z, z = far (edges L) k j := ⟨_, rfl⟩
                      rw [← hy] at c5 htri hy1 hy2
                      rw [← hz] at c6 htri hz1 hz2
                      rw [← HX.out] at c7 htri
                      obtain ⟨s, hs⟩ : ∃ s, s = y + z := ⟨_, rfl⟩
                      have hws : IntKind.i64.wrap (y + z) = s := by rw [hs]; simp [IntKind.wrap, IntKind.bits, IntKind.signed]; omega
                      have hd1 : decide (s < x) = false := decide_eq_false (by omega)
                      clear hy hz hs htri c3 c4
                      go_wp2_with fail
                      go_quiet (fail)
                      have HBR := Lib.hid (HBQ.out.trans (below_drewN _ wr nq))
                      clear c1 c2 c5 c6 c7
                      generalize wr.drewN nq = wn2 at *
                      go_wp2
                      go_roundg (gq - 1)
                      case measure => omega
                      case rel => exact ⟨k + 1, by omega, by first | rfl | go_num, HBR.out⟩
                    · have hki : decide ((k : Int) < (m : Int)) = false := decide_eq_false (by omega)
                      go_wp2
                      go_roundg (gj - 1)
                      case measure => omega
                      case rel => exact ⟨j + 1, by omega, by first | rfl | go_num, HBQ.out⟩
                · have hne : ((i : Int) != (j : Int)) = true := by simp; omega
                  have hx1 : decide (x < 1) = false := decide_eq_false (by have := hap hij; omega)
                  clear hap hij
                  go_wp2_with fail
                  go_quiet (fail)
                  have HBN := Lib.hid (HBK.out.trans (below_drewN _ wr nq))
                  clear c1 c2 c3 c4
                  generalize wr.drewN nq = wn at *
                  go_wp2
                  go_loopg [11] m (fun gk kv wr => ∃ k : Nat, gk + k = m ∧ kv = .int .i64 k ∧ Below w2.heap.size w2 wr)
                  case atStart => exact ⟨0, by omega, rfl, HBN.out⟩
                  case round =>
                    obtain ⟨gq, rfl⟩ : ∃ gq, gq = gk := ⟨_, rfl⟩
                    obtain ⟨k, hgq, rfl, hbel⟩ := hrel
                    have HBQ := Lib.hid hbel; clear hbel
                    by_cases hkl : k < m
                    · have hki : (k : Int) < (m : Int) := by omega
                      have hk0 : (0 : Int) ≤ (k : Int) := by omega
                      obtain ⟨c1, c3⟩ := HCELL.out wr HBQ.out i hlt
                      obtain ⟨c2, c4⟩ := HCELL.out wr HBQ.out k hkl
                      have c5 := c3 k hkl
                      have c6 := c4 j hjl
                      have c7 := c3 j hjl
                      unfold rowV at c1 c2
                      have htri := far_tri HOK.out.net hn8 (u := i) (w := k) (v := j) hkl hjl
                      have hy1 := far_le HOK.out.net (u := i) (v := k)
                      have hy2 := far_nonneg HOK.out.net (u := i) (v := k)
                      have hz1 := far_le HOK.out.net (u := k) (v := j)
                      have hz2 := far_nonneg HOK.out.net (u := k) (v := j)
                      obtain ⟨y, hy⟩ : ∃ y, y = far (edges L) i k := ⟨_, rfl⟩
                      obtain ⟨z, hz⟩ : ∃ z, z = far (edges L) k j := ⟨_, rfl⟩
                      rw [← hy] at c5 htri hy1 hy2
                      rw [← hz] at c6 htri hz1 hz2
                      rw [← HX.out] at c7 htri
                      obtain ⟨s, hs⟩ : ∃ s, s = y + z := ⟨_, rfl⟩
                      have hws : IntKind.i64.wrap (y + z) = s := by rw [hs]; simp [IntKind.wrap, IntKind.bits, IntKind.signed]; omega
                      have hd1 : decide (s < x) = false := decide_eq_false (by omega)
                      clear hy hz hs htri c3 c4
                      go_wp2_with fail
                      go_quiet (fail)
                      have HBR := Lib.hid (HBQ.out.trans (below_drewN _ wr nq))
                      clear c1 c2 c5 c6 c7
                      generalize wr.drewN nq = wn2 at *
                      go_wp2
                      go_roundg (gq - 1)
                      case measure => omega
                      case rel => exact ⟨k + 1, by omega, by first | rfl | go_num, HBR.out⟩
                    · have hki : decide ((k : Int) < (m : Int)) = false := decide_eq_false (by omega)
                      go_wp2
                      go_roundg (gj - 1)
                      case measure => omega
                      case rel => exact ⟨j + 1, by omega, by first | rfl | go_num, HBQ.out⟩
              · have hji : decide ((j : Int) < (m : Int)) = false := decide_eq_false (by omega)
                go_wp2
                go_roundg (gi - 1)
                case measure => omega
                case rel => exact ⟨i + 1, by omega, by first | rfl | go_num, HBK.out⟩
          · have hii : decide ((i : Int) < (m : Int)) = false := decide_eq_false (by omega)
            go_wp2
            go_ret
            exact ⟨rfl, by have := HB2.out.trans (HBJ.out.mono hg2); rw [HG.out] at this; exact this⟩
  · have HC := Lib.hid hc; clear hc
    have H0 := Lib.hid hc0; clear hc0
    go_enter Try.func4, Try.ntmps4
    go_wp2_with fail
    refine (vectorFact_any _).mono ?_
    rintro e w1 ⟨rfl, hb⟩
    have HB1 := Lib.hid (show Below g w w1 by rw [HG.out]; exact hb); clear hb
    have hg1 : g ≤ w1.heap.size := by have := HB1.out.size; rw [← HG.out] at this; exact this
    go_wp2_with fail
    refine (rounds_err _ _ _ _ _ L 8 c _ (HA.out.below HB1.out) rfl (by omega) hg1 HC.out H0.out).mono ?_
    rintro e w2 ⟨rfl, hb⟩
    have HB2 := Lib.hid (HB1.out.trans (hb.mono hg1)); clear hb
    go_wp2
    go_ret
    exact ⟨rfl, by have := HB2.out; rw [HG.out] at this; exact this⟩
end Go.Proofs.Ytkheccnjcaljdaa
