/- VectorReach returns true: behind so many rounds one knows of just those that are no more links away. -/
import Derived.Test.YtkheccnjcaljdaaVecFact
import Derived.Test.YtkheccnjcaljdaaEven
import Derived.Test.YtkheccnjcaljdaaIn3
import Derived.Deep.RegionLaw
namespace Go.Proofs.Ytkheccnjcaljdaa
open Go.RowKit
set_option linter.unusedVariables false

set_option maxHeartbeats 4000000 in
set_option maxRecDepth 100000 in
theorem vectorReach_walk (n : Int) (ao : Option Addr) (ac : Nat) (L : List Lnk) (f : Int) (w : World) (hnb : -9223372036854775808 ≤ n ∧ n ≤ 9223372036854775807) (hA : RowSl w.heap.size w ao 3 (L.map lnkC)) (hac : L.length ≤ ac) (hmax : ac ≤ maxLen) (hgood : ∀ x ∈ L, LnkGood x)
    (_ : -9223372036854775808 ≤ f ∧ f ≤ 9223372036854775807) :
    Calls Try.prog 5 #[.int .i64 n, .slice ao L.length ac, .int .i64 f] w fun e w' => e = .returned (.bool true) ∧ Below w.heap.size w w' := by
  unfold maxLen at hmax
  have HA := Lib.hid hA; clear hA hgood
  obtain ⟨g, hg⟩ : ∃ g, g = w.heap.size := ⟨_, rfl⟩
  rw [← hg] at HA
  have HG := Lib.hid hg; clear hg
  have hci : Try.prog.cellsOf 3 = 1 := by kernel_rfl
  obtain ⟨c, hc⟩ : ∃ c, c = rCode n L f := ⟨_, rfl⟩
  by_cases hc0 : c = 0
  · obtain ⟨m, t, rfl, rfl, ht20, hok⟩ := rCode_zero.1 (hc.symm.trans hc0)
    clear hc hc0
    have hn8 := hok.n8
    have hn1 := hok.n1
    have hl32 := hok.few
    have HOK := Lib.hid hok; clear hok
    go_enter Try.func5, Try.ntmps5
    go_wp2_with fail
    refine (vectorFact_any _).mono ?_
    rintro e w1 ⟨rfl, hb⟩
    have HB1 := Lib.hid (show Below g w w1 by rw [HG.out]; exact hb); clear hb
    have hg1 : g ≤ w1.heap.size := by have := HB1.out.size; rw [← HG.out] at this; exact this
    go_wp2_with fail
    refine (rounds_ok m _ _ _ g L t _ (HA.out.below HB1.out) rfl hg1 HOK.out ht20).mono ?_
    rintro e w2 ⟨va, Pa, rfl, hs, hb⟩
    have hs' : Sep w1.heap.size w2 ([] ++ (matE va Pa m m (bell (edges L) t) ++ [])) := by rw [List.append_nil]; exact hs
    obtain ⟨aa, ca, rfl, hca, _⟩ := mat_out hs'
    have HMA := Lib.hid (mat_read hs' (by omega))
    have HB2 := Lib.hid (HB1.out.trans (hb.mono hg1))
    have hg2 : g ≤ w2.heap.size := by have := HB2.out.size; rw [← HG.out] at this; exact this
    clear hs hs' hb
    obtain ⟨g2, hg2e⟩ : ∃ g2, g2 = w2.heap.size := ⟨_, rfl⟩
    have HNIL := Lib.hid ((Sep.nil g2 w2).rowNil 3 36)
    have HG2 := Lib.hid hg2e; clear hg2e
    go_wp2
    go_loopg [10, 11] L.length (fun gk out iv wr => ∃ (i : Nat) (v : Value), gk + i = L.length ∧ v = out ∧ iv = .int .i64 i ∧ Sep g2 wr [Ent.row v i 3 36 ((evenL (L.take i)).flatMap lnkC)] ∧ Below g2 w2 wr)
    case atStart => exact ⟨0, _, by omega, rfl, rfl, HNIL.out, Below.refl _ _⟩
    case round =>
      obtain ⟨gi, rfl⟩ : ∃ gi, gi = gk := ⟨_, rfl⟩
      obtain ⟨i, v, hgi, rfl, rfl, hsep, hbel⟩ := hrel
      have HS3 := Lib.hid hsep; clear hsep
      have HB3 := Lib.hid hbel; clear hbel
      have hgr : g2 ≤ wr.heap.size := by have := HB3.out.size; rw [← HG2.out] at this; exact this
      by_cases hlt : i < L.length
      · have hii : (i : Int) < (L.length : Int) := by omega
        have hi0 : (0 : Int) ≤ (i : Int) := by omega
        obtain ⟨x, hx⟩ : ∃ x, L[i]? = some x := ⟨_, List.getElem?_eq_getElem hlt⟩
        have hb2 := HB2.out.trans (HB3.out.mono (show g ≤ g2 by rw [HG2.out]; exact hg2))
        obtain ⟨b, off, rfl, hbb, c0, c1, c2⟩ := (HA.out.below hb2).lnk hx
        have hnext := evenL_succ hx
        obtain ⟨xa, xb, xc⟩ := x
        simp only at c0 c1 c2 hnext
        have HNX := Lib.hid hnext
        clear hb2 hx hnext c2
        have hsd := (HS3.out.alloc (.cells #[.int .i64 xa, .int .i64 xb, .int .i64 1] 36)).drew
        have hgd : g2 ≤ (wr.alloc (.cells #[.int .i64 xa, .int .i64 xb, .int .i64 1] 36)).drew.heap.size := by show g2 ≤ (wr.alloc _).heap.size; simp; omega
        obtain ⟨v', w4, hr, hs4, hb4⟩ := run_append_sep (A := []) (C := []) elemLnk 22 hsd hgd ⟨wr.heap.size, 0, none⟩ 1 1 [.int .i64 xa, .int .i64 xb, .int .i64 1] rfl (fun j u hu => by
          show (wr.alloc _).cell? _ = _
          rw [show (⟨wr.heap.size, 0, none⟩ : Addr).add j = ⟨wr.heap.size, 0 + j, none⟩ by unfold Addr.add; split <;> simp_all, World.cell?_alloc_mark, Nat.zero_add, ← hu]; simp)
          (fun u hu => by
            simp only [List.mem_cons, List.not_mem_nil, or_false] at hu
            rcases hu with rfl | rfl | rfl <;> rfl) (by decide) (by omega) (by unfold maxLen; omega)
        have hs5 : Sep g2 w4 [Ent.row v' (i + 1) 3 36 ((evenL (L.take (i + 1))).flatMap lnkC)] := by
          rw [HNX.out, List.flatMap_append]
          exact hs4
        have HS5 := Lib.hid hs5
        have HB5 := Lib.hid (HB3.out.trans ((((Below.refl g2 wr).alloc hgr _).drew).trans hb4))
        have HR := Lib.hid hr
        clear hsd hgd hs4 hb4 hs5 hr
        go_wp2_with fail
        go_region_law (refine step_append_run rfl (.tmp 36) (.tmp 48) 22 rfl v (.slice (some ⟨wr.heap.size, 0, none⟩) 1 1) ?_ ?_ HR.out ?_; rfl; rfl)
        all_goals
          go_wp2
          go_roundg (gi - 1)
          case measure => omega
          case rel => exact ⟨i + 1, _, by omega, rfl, by first | rfl | go_num, HS5.out, HB5.out⟩
      · have hii : decide ((i : Int) < (L.length : Int)) = false := decide_eq_false (by omega)
        obtain rfl : i = L.length := by omega
        have hs6 := HS3.out
        rw [List.take_length] at hs6
        obtain ⟨_, ae, ce, rfl, _, _⟩ := Sep.rowShape (A := []) hs6
        have HAE := Lib.hid (Sep.lnkSl (A := []) hs6)
        have hbw : Below w2.heap.size w2 wr := by rw [← HG2.out]; exact HB3.out
        have HMA3 := Lib.hid (HMA.out.below hbw)
        have HB6 := Lib.hid (HB2.out.trans (hbw.mono hg2))
        have hg6 : g ≤ wr.heap.size := by have := HB6.out.size; rw [← HG.out] at this; exact this
        have hle : L.length = (evenL L).length := by unfold evenL; rw [List.length_map]
        have HLE := Lib.hid hle
        clear hs6 hbw hle HS3 HNIL
        go_wp2_with fail
        refine (rounds_ok m _ _ _ _ (evenL L) 8 _ HAE.out HLE.out (Nat.le_refl _) HOK.out.even (by decide)).mono ?_
        rintro e w7 ⟨vb, Pb, rfl, hs, hb⟩
        have hs' : Sep wr.heap.size w7 ([] ++ (matE vb Pb m m (bell (edges (evenL L)) 8) ++ [])) := by rw [List.append_nil]; exact hs
        obtain ⟨ab, cb, rfl, hcb, _⟩ := mat_out hs'
        have HMB := Lib.hid (mat_read hs' (by omega))
        have hszm : w2.heap.size ≤ wr.heap.size := by rw [← HG2.out]; exact hgr
        have HMA7 := Lib.hid (((HMA3.out.mono hszm).below hb).mono hb.size)
        have HB7 := Lib.hid (HB6.out.trans (hb.mono hg6))
        have hg7 : g ≤ w7.heap.size := by have := HB7.out.size; rw [← HG.out] at this; exact this
        clear hs hs' hb HMA HMA3
        obtain ⟨ga, oa, rfl, _⟩ := HMA7.out 0 (by omega)
        obtain ⟨gb, ob, rfl, _⟩ := HMB.out 0 (by omega)
        have hcell : ∀ W, Below w7.heap.size w7 W → ∀ i, i < m → W.cell? ⟨ga, oa + i, none⟩ = some (rowV Pa m i) ∧ W.cell? ⟨gb, ob + i, none⟩ = some (rowV Pb m i) ∧
            ∀ j, j < m → W.cell? ⟨(Pa i).1, (Pa i).2.1 + j, none⟩ = some (.int .i64 (bell (edges L) t i j)) ∧ W.cell? ⟨(Pb i).1, (Pb i).2.1 + j, none⟩ = some (.int .i64 (far (edges (evenL L)) i j)) := fun W hW i hi => by
          obtain ⟨g1, o1, e1, _, a1, _, a2⟩ := (HMA7.out.below hW) i hi
          obtain ⟨g2, o2, e2, _, b1, _, b2⟩ := (HMB.out.below hW) i hi
          simp only [Option.some.injEq, Addr.mk.injEq, and_true] at e1 e2
          obtain ⟨rfl, rfl⟩ := e1
          obtain ⟨rfl, rfl⟩ := e2
          exact ⟨a1, b1, fun j hj => ⟨a2 j hj, b2 j hj⟩⟩
        have HCELL := Lib.hid hcell; clear hcell
        have hmm : ((m : Int) != (m : Int)) = false := by simp
        go_wp2
        go_loopg [13] m (fun gk iv wr => ∃ i : Nat, gk + i = m ∧ iv = .int .i64 i ∧ Below w7.heap.size w7 wr)
        case atStart => exact ⟨0, by omega, rfl, Below.refl _ _⟩
        case round =>
          obtain ⟨gi, rfl⟩ : ∃ gi, gi = gk := ⟨_, rfl⟩
          obtain ⟨i, hgi, rfl, hbel⟩ := hrel
          have HBI := Lib.hid hbel; clear hbel
          by_cases hlt : i < m
          · have hii : (i : Int) < (m : Int) := by omega
            have hi0 : (0 : Int) ≤ (i : Int) := by omega
            obtain ⟨c1, c2, _⟩ := HCELL.out wr HBI.out i hlt
            unfold rowV at c1 c2
            go_wp2
            clear c1 c2
            go_loopg [14] m (fun gk jv wr => ∃ j : Nat, gk + j = m ∧ jv = .int .i64 j ∧ Below w7.heap.size w7 wr)
            case atStart => exact ⟨0, by omega, rfl, HBI.out⟩
            case round =>
              obtain ⟨gj, rfl⟩ : ∃ gj, gj = gk := ⟨_, rfl⟩
              obtain ⟨j, hgj, rfl, hbel⟩ := hrel
              have HBJ := Lib.hid hbel; clear hbel
              by_cases hjl : j < m
              · have hji : (j : Int) < (m : Int) := by omega
                have hj0 : (0 : Int) ≤ (j : Int) := by omega
                obtain ⟨c1, c2, c34⟩ := HCELL.out wr HBJ.out i hlt
                obtain ⟨c3, c4⟩ := c34 j hjl
                unfold rowV at c1 c2
                have hri := reach_iff HOK.out ht20 (i := i) hjl
                obtain ⟨x, hx⟩ : ∃ x, x = bell (edges L) t i j := ⟨_, rfl⟩
                obtain ⟨y, hy⟩ : ∃ y, y = far (edges (evenL L)) i j := ⟨_, rfl⟩
                rw [← hx] at c3 hri
                rw [← hy] at c4 hri
                clear hx hy c34
                by_cases hx1 : x < 1000
                · have hd1 : decide (x < 1000) = true := decide_eq_true hx1
                  have hd2 : decide (y ≤ (t : Int)) = true := decide_eq_true (hri.1 hx1)
                  clear hri hx1
                  go_wp2_with fail
                  go_quiet (fail)
                  have HBN := Lib.hid (HBJ.out.trans (below_drewN _ wr nq))
                  clear c1 c2 c3 c4
                  generalize wr.drewN nq = wn at *
                  go_wp2
                  go_roundg (gj - 1)
                  case measure => omega
                  case rel => exact ⟨j + 1, by omega, by first | rfl | go_num, HBN.out⟩
                · have hd1 : decide (x < 1000) = false := decide_eq_false hx1
                  have hd2 : decide (y ≤ (t : Int)) = false := decide_eq_false (fun h => hx1 (hri.2 h))
                  clear hri hx1
                  go_wp2_with fail
                  go_quiet (fail)
                  have HBN := Lib.hid (HBJ.out.trans (below_drewN _ wr nq))
                  clear c1 c2 c3 c4
                  generalize wr.drewN nq = wn at *
                  go_wp2
                  go_roundg (gj - 1)
                  case measure => omega
                  case rel => exact ⟨j + 1, by omega, by first | rfl | go_num, HBN.out⟩
              · have hji : decide ((j : Int) < (m : Int)) = false := decide_eq_false (by omega)
                go_wp2
                go_roundg (gi - 1)
                case measure => omega
                case rel => exact ⟨i + 1, by omega, by first | rfl | go_num, HBJ.out⟩
          · have hii : decide ((i : Int) < (m : Int)) = false := decide_eq_false (by omega)
            go_wp2
            go_ret
            exact ⟨rfl, by have := HB7.out.trans (HBI.out.mono hg7); rw [HG.out] at this; exact this⟩
  · have HC := Lib.hid hc; clear hc
    have H0 := Lib.hid hc0; clear hc0
    go_enter Try.func5, Try.ntmps5
    go_wp2_with fail
    refine (vectorFact_any _).mono ?_
    rintro e w1 ⟨rfl, hb⟩
    have HB1 := Lib.hid (show Below g w w1 by rw [HG.out]; exact hb); clear hb
    have hg1 : g ≤ w1.heap.size := by have := HB1.out.size; rw [← HG.out] at this; exact this
    go_wp2_with fail
    refine (rounds_err _ _ _ _ _ L f c _ (HA.out.below HB1.out) rfl (by omega) hg1 HC.out H0.out).mono ?_
    rintro e w2 ⟨rfl, hb⟩
    have HB2 := Lib.hid (HB1.out.trans (hb.mono hg1)); clear hb
    go_wp2
    go_ret
    exact ⟨rfl, by have := HB2.out; rw [HG.out] at this; exact this⟩
end Go.Proofs.Ytkheccnjcaljdaa
