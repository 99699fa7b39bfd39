/- StpSame returns true: all that hang together have one root, the least of them; the same tree in whatever order the links are told. -/
import Derived.Test.YtkheccnjcaljdaaStpKit
import Derived.Test.YtkheccnjcaljdaaEven
import Derived.Deep.RegionLaw
import Derived.BigQuiet
namespace Go.Proofs.Ytkheccnjcaljdaa
open Go.RowKit
set_option linter.unusedVariables false

set_option maxHeartbeats 4000000 in
set_option maxRecDepth 100000 in
theorem stpSame_walk (n : Int) (ao : Option Addr) (ac : Nat) (L : List Lnk) (w : World) (hnb : -9223372036854775808 ≤ n ∧ n ≤ 9223372036854775807) (hA : RowSl w.heap.size w ao 3 (L.map lnkC)) (hac : L.length ≤ ac) (hmax : ac ≤ maxLen) (hgood : ∀ x ∈ L, LnkGood x) :
    Calls Try.prog 6 #[.int .i64 n, .slice ao L.length ac] w fun e w' => e = .returned (.bool true) ∧ Below w.heap.size w w' := by
  unfold maxLen at hmax
  have HA := Lib.hid hA; clear hA hgood
  obtain ⟨g, hg⟩ : ∃ g, g = w.heap.size := ⟨_, rfl⟩
  rw [← hg] at HA
  have HG := Lib.hid hg; clear hg
  have hci : Try.prog.cellsOf 3 = 1 := by kernel_rfl
  obtain ⟨c, hc⟩ : ∃ c, c = vCode n L := ⟨_, rfl⟩
  by_cases hc0 : c = 0
  · obtain ⟨m, rfl, hok⟩ := vCode_zero.1 (hc.symm.trans hc0)
    clear hc hc0
    have hn8 := hok.n8
    have hn1 := hok.n1
    have hl32 := hok.few
    have HOK := Lib.hid hok; clear hok
    go_enter Try.func6, Try.ntmps6
    go_wp2_with fail
    refine (stpFact_any _).mono ?_
    rintro e w1 ⟨rfl, hb⟩
    have HB1 := Lib.hid (show Below g w w1 by rw [HG.out]; exact hb); clear hb
    have hg1 : g ≤ w1.heap.size := by have := HB1.out.size; rw [← HG.out] at this; exact this
    go_wp2_with fail
    refine (tree_ok m _ _ _ g L _ (HA.out.below HB1.out) rfl hg1 HOK.out).mono ?_
    rintro e w2 ⟨vr, vf, vo, rfl, hs, hb⟩
    obtain ⟨gr, fr, cr, gf, ff, cf, go, fo, co, rfl, rfl, rfl, h1, h2, h3⟩ := tree_shape hs (by omega)
    have HX := Lib.hid h1
    have HY := Lib.hid h2
    have HZ := Lib.hid h3
    have HB2 := Lib.hid (HB1.out.trans (hb.mono hg1))
    have hg2 : g ≤ w2.heap.size := by have := HB2.out.size; rw [← HG.out] at this; exact this
    clear hs hb h1 h2 h3
    have hmm : ((m : Int) != (m : Int)) = false := by simp
    go_wp2
    clear hmm
    go_loopg [10] L.length (fun gk iv wr => ∃ i : Nat, gk + i = L.length ∧ iv = .int .i64 i ∧ Below w2.heap.size w2 wr)
    case atStart => exact ⟨0, by omega, rfl, Below.refl _ _⟩
    case round =>
      obtain ⟨gi, rfl⟩ : ∃ gi, gi = gk := ⟨_, rfl⟩
      obtain ⟨i, hgi, rfl, hbel⟩ := hrel
      have HB3 := Lib.hid hbel; clear hbel
      by_cases hlt : i < L.length
      · have hii : (i : Int) < (L.length : Int) := by omega
        have hi0 : (0 : Int) ≤ (i : Int) := by omega
        obtain ⟨x, hx⟩ : ∃ x, L[i]? = some x := ⟨_, List.getElem?_eq_getElem hlt⟩
        obtain ⟨b, off, rfl, hbb, c0, c1, c2⟩ := ((HA.out.below HB2.out).below (HB3.out.mono hg2)).lnk hx
        have hlo := HOK.out.each x (List.mem_iff_getElem?.2 ⟨i, hx⟩)
        have hed : (x.1.toNat, x.2.1.toNat, x.2.2) ∈ edges L := mem_edges.2 ⟨x, List.mem_iff_getElem?.2 ⟨i, hx⟩, .inl rfl⟩
        obtain ⟨xa, xb, xc⟩ := x
        obtain ⟨⟨la1, la2⟩, ⟨lb1, lb2⟩, ⟨lc1, lc2⟩, lne⟩ := hlo
        simp only at c0 c1 c2 la1 la2 lb1 lb2 lc1 lc2 lne
        obtain ⟨ua, rfl⟩ := Int.eq_ofNat_of_zero_le la1
        obtain ⟨ub, rfl⟩ := Int.eq_ofNat_of_zero_le lb1
        simp only [Int.toNat_natCast] at hed
        have hua : ua < m := by omega
        have hub : ub < m := by omega
        have hua' : (ua : Int) < (m : Int) := by omega
        have hub' : (ub : Int) < (m : Int) := by omega
        have hre := rootF_edge HOK.out.net hn8 hed
        have d1 := (HX.out.below HB3.out).at_ hua
        have d2 := (HX.out.below HB3.out).at_ hub
        obtain ⟨r, hr⟩ : ∃ r, r = rootF m (edges L) ub := ⟨_, rfl⟩
        rw [hre, ← hr] at d1
        rw [← hr] at d2
        clear hre hr hed hx c2 lc1 lc2 lne la2 lb2
        have hrr : ((r : Int) != (r : Int)) = false := by simp
        go_wp2_with fail
        go_quiet (fail)
        have HBN := Lib.hid (HB3.out.trans (below_drewN _ wr nq))
        clear c0 c1 d1 d2
        generalize wr.drewN nq = wn at *
        go_wp2
        go_roundg (gi - 1)
        case measure => omega
        case rel => exact ⟨i + 1, by omega, by first | rfl | go_num, HBN.out⟩
      · obtain rfl : i = L.length := by omega
        have hii : decide ((L.length : Int) < (L.length : Int)) = false := by simp
        go_wp2
        clear hii hlt
        go_loopg [11] m (fun gk iv wr => ∃ i : Nat, gk + i = m ∧ iv = .int .i64 i ∧ Below w2.heap.size w2 wr)
        case atStart => exact ⟨0, by omega, rfl, HB3.out⟩
        case round =>
          obtain ⟨gi, rfl⟩ : ∃ gi, gi = gk := ⟨_, rfl⟩
          obtain ⟨i, hgi, rfl, hbel⟩ := hrel
          have HB4 := Lib.hid hbel; clear hbel
          clear HB3
          by_cases hlt : i < m
          · have hii : (i : Int) < (m : Int) := by omega
            have hi0 : (0 : Int) ≤ (i : Int) := by omega
            have a1 := (rootF_spec HOK.out.net hlt).1
            have a2 := rootF_le HOK.out.net hlt
            have a3 := rootF_self HOK.out.net hn8 hlt
            have d1 := (HX.out.below HB4.out).at_ hlt
            have d2 := (HX.out.below HB4.out).at_ a1
            obtain ⟨r, hr⟩ : ∃ r, r = rootF m (edges L) i := ⟨_, rfl⟩
            rw [← hr] at d1 d2 a1 a2 a3
            rw [a3] at d2
            clear hr a3
            have ha1 : (r : Int) < (m : Int) := by omega
            have ha0 : (0 : Int) ≤ (r : Int) := by omega
            have hd1 : decide ((i : Int) < (r : Int)) = false := decide_eq_false (by omega)
            have hd2 : decide ((r : Int) < 0) = false := decide_eq_false (by omega)
            have hrr : ((r : Int) != (r : Int)) = false := by simp
            go_wp2_with fail
            go_quiet (fail)
            have HBN := Lib.hid (HB4.out.trans (below_drewN _ wr nq))
            clear d1 d2
            generalize wr.drewN nq = wn at *
            go_wp2
            go_roundg (gi - 1)
            case measure => omega
            case rel => exact ⟨i + 1, by omega, by first | rfl | go_num, HBN.out⟩
          · have hii : decide ((i : Int) < (m : Int)) = false := decide_eq_false (by omega)
            have HB5 := Lib.hid (HB2.out.trans (HB4.out.mono hg2))
            have hg5 : g ≤ wr.heap.size := by have := HB5.out.size; rw [← HG.out] at this; exact this
            have HX5 := Lib.hid ((HX.out.below HB4.out).mono HB4.out.size)
            have HY5 := Lib.hid ((HY.out.below HB4.out).mono HB4.out.size)
            have HZ5 := Lib.hid ((HZ.out.below HB4.out).mono HB4.out.size)
            clear HX HY HZ HB2 HB4 hg2
            obtain ⟨g2, hg2e⟩ : ∃ g2, g2 = wr.heap.size := ⟨_, rfl⟩
            have HNIL := Lib.hid ((Sep.nil g2 wr).rowNil 3 36)
            have HG2 := Lib.hid hg2e; clear hg2e
            obtain ⟨w5, hw5⟩ : ∃ w5, w5 = wr := ⟨_, rfl⟩
            obtain rfl := hw5
            go_wp2
            clear hii
            go_loopg [12, 13] L.length (fun gk out iv wr => ∃ (i : Nat) (k : Int) (v : Value), gk + i = L.length ∧ k + i + 1 = L.length ∧ v = out ∧ iv = .int .i64 k ∧ Sep g2 wr [Ent.row v i 3 36 ((turnT L i).flatMap lnkC)] ∧ Below g2 w5 wr)
            case atStart => exact ⟨0, _, _, by omega, (by simp), rfl, rfl, (by rw [turnT_zero]; exact HNIL.out), Below.refl _ _⟩
            case round =>
              obtain ⟨gi, rfl⟩ : ∃ gi, gi = gk := ⟨_, rfl⟩
              obtain ⟨i, k, v, hgi, hk, rfl, rfl, hsep, hbel⟩ := hrel
              have HS6 := Lib.hid hsep; clear hsep
              have HB6 := Lib.hid hbel; clear hbel
              have hgr : g2 ≤ wr.heap.size := by have := HB6.out.size; rw [← HG2.out] at this; exact this
              by_cases hlt : i < L.length
              · obtain ⟨q, rfl⟩ := Int.eq_ofNat_of_zero_le (show 0 ≤ k by omega)
                have hii : (q : Int) < (L.length : Int) := by omega
                have hi0 : (0 : Int) ≤ (q : Int) := by omega
                obtain ⟨x, hx⟩ : ∃ x, L[q]? = some x := ⟨_, List.getElem?_eq_getElem (by omega)⟩
                have hb2 := HB5.out.trans (HB6.out.mono (show g ≤ g2 by rw [HG2.out]; exact hg5))
                obtain ⟨b, off, rfl, hbb, c0, c1, c2⟩ := (HA.out.below hb2).lnk hx
                have hnext := turnT_succ (i := i) (by omega) hx
                obtain ⟨xa, xb, xc⟩ := x
                simp only [sw] at c0 c1 c2 hnext
                have HNX := Lib.hid hnext
                clear hb2 hx hnext
                have hsd := (HS6.out.alloc (.cells #[.int .i64 xb, .int .i64 xa, .int .i64 xc] 36)).drew
                have hgd : g2 ≤ (wr.alloc (.cells #[.int .i64 xb, .int .i64 xa, .int .i64 xc] 36)).drew.heap.size := by show g2 ≤ (wr.alloc _).heap.size; simp; omega
                obtain ⟨v', w7, hr, hs7, hb7⟩ := run_append_sep (A := []) (C := []) elemLnk 22 hsd hgd ⟨wr.heap.size, 0, none⟩ 1 1 [.int .i64 xb, .int .i64 xa, .int .i64 xc] rfl (fun j u hu => by
                  show (wr.alloc _).cell? _ = _
                  rw [show (⟨wr.heap.size, 0, none⟩ : Addr).add j = ⟨wr.heap.size, 0 + j, none⟩ by unfold Addr.add; split <;> simp_all, World.cell?_alloc_mark, Nat.zero_add, ← hu]; simp)
                  (fun u hu => by
                    simp only [List.mem_cons, List.not_mem_nil, or_false] at hu
                    rcases hu with rfl | rfl | rfl <;> rfl) (by decide) (by omega) (by unfold maxLen; omega)
                have hs8 : Sep g2 w7 [Ent.row v' (i + 1) 3 36 ((turnT L (i + 1)).flatMap lnkC)] := by
                  rw [HNX.out, List.flatMap_append]
                  exact hs7
                have HS8 := Lib.hid hs8
                have HB8 := Lib.hid (HB6.out.trans ((((Below.refl g2 wr).alloc hgr _).drew).trans hb7))
                have HR := Lib.hid hr
                clear hsd hgd hs7 hb7 hs8 hr
                have hkn : (q : Int) - 1 + ((i + 1 : Nat) : Int) + 1 = L.length := by omega
                have HKN := Lib.hid hkn
                clear hkn hk
                go_wp2_with fail
                go_region_law (refine step_append_run rfl (.tmp 99) (.tmp 116) 22 rfl v (.slice (some ⟨wr.heap.size, 0, none⟩) 1 1) ?_ ?_ HR.out ?_; rfl; rfl)
                all_goals
                  go_wp2
                  go_roundg (gi - 1)
                  case measure => omega
                  case rel => exact ⟨i + 1, (q : Int) - 1, _, by omega, HKN.out, rfl, by first | rfl | go_num, HS8.out, HB8.out⟩
              · obtain rfl : i = L.length := by omega
                obtain rfl : k = -1 := by omega
                have hs6 := HS6.out
                obtain ⟨_, ae, ce, rfl, _, _⟩ := Sep.rowShape (A := []) hs6
                have hle := turnT_len L
                have htr := tree_turned HOK.out
                have hs6' : Sep g2 wr ([] ++ Ent.row (.slice ae L.length ce) L.length 3 36 ((turnT L L.length).flatMap lnkC) :: []) := hs6
                have HAE := Lib.hid (Sep.lnkSl (A := []) hs6')
                have HLE := Lib.hid hle.symm
                have HTR := Lib.hid htr
                have hbw : Below w5.heap.size w5 wr := by rw [← HG2.out]; exact HB6.out
                have HB7 := Lib.hid (HB5.out.trans (hbw.mono hg5))
                have HX7 := Lib.hid ((HX5.out.below hbw).mono hbw.size)
                have HY7 := Lib.hid ((HY5.out.below hbw).mono hbw.size)
                have HZ7 := Lib.hid ((HZ5.out.below hbw).mono hbw.size)
                have hg7 : g ≤ wr.heap.size := by have := HB7.out.size; rw [← HG.out] at this; exact this
                clear hs6 hs6' hbw hle htr HS6 HNIL HX5 HY5 HZ5 hk
                go_wp2_with fail
                refine (tree_ok m _ _ _ _ (turnT L L.length) _ HAE.out HLE.out (Nat.le_refl _) HOK.out.turned).mono ?_
                rintro e w8 ⟨vr, vf, vo, rfl, hs, hb⟩
                rw [HTR.out.1, HTR.out.2.1, HTR.out.2.2] at hs
                obtain ⟨gr', fr', cr', gf', ff', cf', go', fo', co', rfl, rfl, rfl, h1, h2, h3⟩ := tree_shape hs (by omega)
                have HX8 := Lib.hid ((HX7.out.below hb).mono hb.size)
                have HY8 := Lib.hid ((HY7.out.below hb).mono hb.size)
                have HZ8 := Lib.hid ((HZ7.out.below hb).mono hb.size)
                have HX9 := Lib.hid h1
                have HY9 := Lib.hid h2
                have HZ9 := Lib.hid h3
                have HB8 := Lib.hid (HB7.out.trans (hb.mono hg7))
                have hg8 : g ≤ w8.heap.size := by have := HB8.out.size; rw [← HG.out] at this; exact this
                clear hs hb h1 h2 h3 HTR
                go_wp2_with fail
                refine (ints_any _ _ _ _ _ _ _ _ _ _ true _ HX9.out HX8.out (arr_len _ _).symm (arr_len _ _).symm (by rw [arr_len]; omega) (by rw [decide_eq_true]; rfl)).mono ?_
                rintro e w9 ⟨rfl, hd⟩
                have hb9 := below_of_drew hd
                have HB9 := Lib.hid (HB8.out.trans (hb9.mono hg8))
                have HY10 := Lib.hid ((HY8.out.below hb9).mono hb9.size)
                have HZ10 := Lib.hid ((HZ8.out.below hb9).mono hb9.size)
                have HY11 := Lib.hid ((HY9.out.below hb9).mono hb9.size)
                have HZ11 := Lib.hid ((HZ9.out.below hb9).mono hb9.size)
                clear hd hb9
                go_wp2_with fail
                refine (ints_any _ _ _ _ _ _ _ _ _ _ true _ HY11.out HY10.out (arr_len _ _).symm (arr_len _ _).symm (by rw [arr_len]; omega) (by rw [decide_eq_true]; rfl)).mono ?_
                rintro e w10 ⟨rfl, hd⟩
                have hb10 := below_of_drew hd
                have hg9 : g ≤ w9.heap.size := by have := HB9.out.size; rw [← HG.out] at this; exact this
                have HB10 := Lib.hid (HB9.out.trans (hb10.mono hg9))
                have HZ12 := Lib.hid (HZ10.out.below hb10)
                have HZ13 := Lib.hid (HZ11.out.below hb10)
                clear hd hb10
                go_wp2_with fail
                refine (ints_any _ _ _ _ _ _ _ _ _ _ true _ HZ13.out HZ12.out (arr_len _ _).symm (arr_len _ _).symm (by rw [arr_len]; omega) (by rw [decide_eq_true]; rfl)).mono ?_
                rintro e w11 ⟨rfl, hd⟩
                have hb11 := below_of_drew hd
                have hg10 : g ≤ w10.heap.size := by have := HB10.out.size; rw [← HG.out] at this; exact this
                have HB11 := Lib.hid (HB10.out.trans (hb11.mono hg10))
                clear hd hb11
                go_wp2
                go_ret
                exact ⟨rfl, by have := HB11.out; rw [HG.out] at this; exact this⟩
  · have HC := Lib.hid hc; clear hc
    have H0 := Lib.hid hc0; clear hc0
    go_enter Try.func6, Try.ntmps6
    go_wp2_with fail
    refine (stpFact_any _).mono ?_
    rintro e w1 ⟨rfl, hb⟩
    have HB1 := Lib.hid (show Below g w w1 by rw [HG.out]; exact hb); clear hb
    have hg1 : g ≤ w1.heap.size := by have := HB1.out.size; rw [← HG.out] at this; exact this
    go_wp2_with fail
    refine (tree_err _ _ _ _ _ L c _ (HA.out.below HB1.out) rfl (by omega) hg1 HC.out H0.out).mono ?_
    rintro e w2 ⟨rfl, hb⟩
    have HB2 := Lib.hid (HB1.out.trans (hb.mono hg1)); clear hb
    go_wp2
    go_ret
    exact ⟨rfl, by have := HB2.out; rw [HG.out] at this; exact this⟩
end Go.Proofs.Ytkheccnjcaljdaa
