/- RpfKids returns true: each one that can be reached is told by just one. -/
import Derived.Test.YtnmddgjgmdegoaaRpfFact
import Derived.Test.YtnmddgjgmdegoaaKids
import Derived.Test.YtnmddgjgmdegoaaIn3
import Derived.Deep.LoopGhost
import Derived.BigQuiet
namespace Go.Proofs.Ytnmddgjgmdegoaa
open Go.RowKit
set_option linter.unusedVariables false

def tldJ (n : Nat) (L : List Lnk) (o a j i : Nat) : Nat := tld n L o a i + (if i ∈ (kidL n L o a n).take j then 1 else 0)
theorem tldJ_zero (n : Nat) (L : List Lnk) (o a i : Nat) : tldJ n L o a 0 i = tld n L o a i := by unfold tldJ; simp
theorem tldJ_next {n : Nat} {L : List Lnk} {o a j x : Nat} (hx : (kidL n L o a n)[j]? = some x) (i : Nat) : (if i = x then tldJ n L o a j x + 1 else tldJ n L o a j i) = tldJ n L o a (j + 1) i := by
  have hn : (kidL n L o a n).Pairwise (· < ·) := kidL_sorted n L o a n
  obtain ⟨hj, hxe⟩ := List.getElem?_eq_some_iff.1 hx
  have hnot : ¬ x ∈ (kidL n L o a n).take j := fun h => by
    obtain ⟨k, hk⟩ := List.mem_iff_getElem?.1 h
    rw [List.getElem?_take] at hk
    split at hk
    · next hkj =>
      obtain ⟨hkl, hke⟩ := List.getElem?_eq_some_iff.1 hk
      have := List.pairwise_iff_getElem.1 hn k j hkl hj hkj
      omega
    · cases hk
  unfold tldJ
  rw [List.take_add_one, hx]
  by_cases e : i = x
  · subst e; rw [if_pos rfl, if_neg hnot]; simp
  · rw [if_neg e]; simp [e]
theorem tldJ_end {n : Nat} {L : List Lnk} {o a i : Nat} (hi : i < n) {j : Nat} (hj : (kidL n L o a n).length ≤ j) : tldJ n L o a j i = tld n L o (a + 1) i := by
  unfold tldJ
  rw [List.take_of_length_le hj]
  show _ = tld n L o a i + (if kidB n L o a i = true then 1 else 0)
  congr 1
  have : i ∈ kidL n L o a n ↔ kidB n L o a i = true := by unfold kidL; rw [List.mem_filter, List.mem_range]; exact ⟨fun h => h.2, fun h => ⟨hi, h⟩⟩
  by_cases h : kidB n L o a i = true
  · rw [if_pos h, if_pos (this.2 h)]
  · rw [if_neg h, if_neg fun g => h (this.1 g)]
theorem tldJ_few (n : Nat) (L : List Lnk) (o a j i : Nat) : tldJ n L o a j i ≤ a + 1 := by
  unfold tldJ
  have h : tld n L o a i ≤ a * 1 := psum_le (fun a => if kidB n L o a i = true then 1 else 0) 1 (fun k => by split <;> omega) a
  split <;> omega
set_option maxHeartbeats 4000000 in
set_option maxRecDepth 100000 in
theorem rpfKids_walk (n : Int) (ao : Option Addr) (ac : Nat) (L : List Lnk) (f : Int) (w : World) (hnb : -9223372036854775808 ≤ n ∧ n ≤ 9223372036854775807) (hA : RowSl w.heap.size w ao 3 (L.map lnkC)) (hac : L.length ≤ ac) (hmax : ac ≤ maxLen) (hgood : ∀ x ∈ L, LnkGood x)
    (_ : -9223372036854775808 ≤ f ∧ f ≤ 9223372036854775807) :
    Calls Try.prog 6 #[.int .i64 n, .slice ao L.length ac, .int .i64 f] w fun e w' => e = .returned (.bool true) ∧ Below w.heap.size w w' := by
  unfold maxLen at hmax
  have HA := Lib.hid hA; clear hA hgood
  obtain ⟨g, hg⟩ : ∃ g, g = w.heap.size := ⟨_, rfl⟩
  rw [← hg] at HA
  have HG := Lib.hid hg; clear hg
  have hci : Try.prog.cellsOf 3 = 1 := by kernel_rfl
  obtain ⟨c, hc⟩ : ∃ c, c = fCode n L f := ⟨_, rfl⟩
  by_cases hc0 : c = 0
  · obtain ⟨m, o, rfl, rfl, ho, hok⟩ := fCode_zero.1 (hc.symm.trans hc0)
    clear hc hc0
    have hn8 := hok.n8
    have hn1 := hok.n1
    have hl32 := hok.few
    have HOK := Lib.hid hok; clear hok
    go_enter Try.func6, Try.ntmps6
    go_wp2_with fail
    refine (rpfFact_any _).mono ?_
    rintro e w1 ⟨rfl, hb⟩
    have HB1 := Lib.hid (show Below g w w1 by rw [HG.out]; exact hb); clear hb
    have hg1 : g ≤ w1.heap.size := by have := HB1.out.size; rw [← HG.out] at this; exact this
    go_wp2_with fail
    refine (from_ok m _ _ _ g L o _ (HA.out.below HB1.out) rfl hg1 HOK.out ho).mono ?_
    rintro e w2 ⟨vf, vh, hf, rfl, hhop, hs, hb⟩
    obtain ⟨af, cf, rfl, -, -⟩ := hs.intsShape (A := []) (C := [_])
    have hs2 := (hs.sub (L' := [Ent.ints 3 (.slice af (arr (far (edges L) o) m).length cf) (arr (far (edges L) o) m)]) ((List.nil_sublist _).cons_cons _)).mono hg1
    rw [arr_len] at hs2 ⊢
    have HS2 := Lib.hid hs2
    have HB2 := Lib.hid (HB1.out.trans (hb.mono hg1))
    have hg2 : g ≤ w2.heap.size := by have := HB2.out.size; rw [← HG.out] at this; exact this
    have hmm : ((m : Int) != (m : Int)) = false := by simp
    clear hs hs2 hb hhop
    go_wp2_with (at_make; refine wpList_make_sep rfl _ _ rfl elemInt8 .i64 .i64 m m m rfl rfl rfl rfl (by omega) (by unfold maxLen; omega) HS2.out hg2 ?_)
    intro w3 hs3 hb3 _
    obtain ⟨gt, hgt⟩ : ∃ gt, gt = w2.heap.size := ⟨_, rfl⟩
    rw [← hgt] at hs3 ⊢
    rw [made_arr] at hs3
    rw [show arr (fun _ => (0 : Int)) m = arr (fun i => ((tld m L o 0 i : Nat) : Int)) m from arr_congr fun _ _ => rfl] at hs3
    have HS3 := Lib.hid hs3
    have HB3 := Lib.hid (HB2.out.trans (hb3.mono hg2))
    clear hs3 hb3 hgt HS2 HB2 hg2
    go_wp2
    go_loopg [12] m (fun gk iv wr => ∃ a : Nat, gk + a = m ∧ iv = .int .i64 a ∧ Sep g wr [Ent.ints 3 (.slice (some ⟨gt, 0, none⟩) m m) (arr (fun i => ((tld m L o a i : Nat) : Int)) m), Ent.ints 3 (.slice af m cf) (arr (far (edges L) o) m)] ∧ Below g w wr)
    case atStart => exact ⟨0, by omega, rfl, HS3.out, HB3.out⟩
    case round =>
      obtain ⟨ga, rfl⟩ : ∃ ga, ga = gk := ⟨_, rfl⟩
      obtain ⟨a, hga, rfl, hs, hb⟩ := hrel
      have HS4 := Lib.hid hs
      have HB4 := Lib.hid hb
      have hg4 : g ≤ wr.heap.size := by have := HB4.out.size; rw [← HG.out] at this; exact this
      clear hs hb HS3 HB3
      by_cases hlt : a < m
      · have hai : (a : Int) < (m : Int) := by omega
        have ha0 : (0 : Int) ≤ (a : Int) := by omega
        go_wp2_with fail
        refine (kids_ok m _ _ _ g L o a _ (HA.out.below HB4.out) rfl hg4 HOK.out ho hlt).mono ?_
        rintro e w5 ⟨vk, rfl, hs, hb⟩
        have hj := Sep.join HS4.out hg4 hb hs
        obtain ⟨ak, ck, rfl, -, -⟩ := Sep.intsShape (A := []) hj
        have hkl : (kidI m L o a m).length = (kidL m L o a m).length := by unfold kidI; rw [List.length_map]
        obtain ⟨N, hN⟩ : ∃ N, N = (kidL m L o a m).length := ⟨_, rfl⟩
        have hNm : N ≤ m := by rw [hN]; exact kidL_len m L o a m
        have hkN : (kidI m L o a m).length = N := by rw [hkl, hN]
        rw [hkN] at hj ⊢
        rw [show arr (fun i => ((tld m L o a i : Nat) : Int)) m = arr (fun i => ((tldJ m L o a 0 i : Nat) : Int)) m from arr_congr fun i _ => by rw [tldJ_zero]] at hj
        have HJ := Lib.hid hj
        have HBJ := Lib.hid (HB4.out.trans (hb.mono hg4))
        have HN := Lib.hid hN
        have HKL := Lib.hid hkN
        clear hs hb hj hkl hN hkN HS4 HB4 hg4
        go_wp2
        go_loopg [15] N (fun gk iv wr => ∃ j : Nat, gk + j = N ∧ iv = .int .i64 j ∧ Sep g wr [Ent.ints 3 (.slice ak N ck) (kidI m L o a m), Ent.ints 3 (.slice (some ⟨gt, 0, none⟩) m m) (arr (fun i => ((tldJ m L o a j i : Nat) : Int)) m), Ent.ints 3 (.slice af m cf) (arr (far (edges L) o) m)] ∧ Below g w wr)
        case atStart => exact ⟨0, by omega, rfl, HJ.out, HBJ.out⟩
        case round =>
          obtain ⟨gj, rfl⟩ : ∃ gj, gj = gk := ⟨_, rfl⟩
          obtain ⟨j, hgj, rfl, hs, hb⟩ := hrel
          have HS5 := Lib.hid hs
          have HB5 := Lib.hid hb
          clear hs hb HJ HBJ
          by_cases hjl : j < N
          · have hji : (j : Int) < (N : Int) := by omega
            have hj0 : (0 : Int) ≤ (j : Int) := by omega
            obtain ⟨x, hxk⟩ : ∃ x, (kidL m L o a m)[j]? = some x := ⟨_, List.getElem?_eq_getElem (by rw [← HN.out]; exact hjl)⟩
            have hxI : (kidI m L o a m)[j]? = some (x : Int) := by unfold kidI; rw [List.getElem?_map, hxk]; rfl
            obtain ⟨hxn, -, -, -, hfar⟩ := kid_far HOK.out ho (List.mem_iff_getElem?.2 ⟨j, hxk⟩)
            have hxni : (x : Int) < (m : Int) := by omega
            have hx0 : (0 : Int) ≤ (x : Int) := by omega
            have hs5 : Sep g wr ([] ++ Ent.ints 3 (.slice ak (kidI m L o a m).length ck) (kidI m L o a m) :: [Ent.ints 3 (.slice (some ⟨gt, 0, none⟩) m m) (arr (fun i => ((tldJ m L o a j i : Nat) : Int)) m), Ent.ints 3 (.slice af m cf) (arr (far (edges L) o) m)]) := by rw [HKL.out]; exact HS5.out
            obtain ⟨gl, ol, rfl, c1, -⟩ := Sep.intsAt hs5 hxI
            obtain ⟨gf, of, rfl, -, f1, -, -⟩ := arrI_at (A := [_, _]) (C := []) HS5.out hxn
            obtain ⟨gf', of', he, -, f2, -, -⟩ := arrI_at (A := [_, _]) (C := []) HS5.out hlt
            simp only [Option.some.injEq, Addr.mk.injEq, and_true] at he
            obtain ⟨rfl, rfl⟩ := he
            obtain ⟨fx, hfx⟩ : ∃ fx, fx = far (edges L) o x := ⟨_, rfl⟩
            obtain ⟨fa, hfa⟩ : ∃ fa, fa = far (edges L) o a := ⟨_, rfl⟩
            rw [← hfx] at f1 hfar
            rw [← hfa] at f2 hfar
            have hle : decide (fx ≤ fa) = false := decide_eq_false (by omega)
            clear hfx hfa hfar
            rcases Nat.eq_zero_or_pos j with hj9 | hj9
            · have hz : decide ((0 : Int) < (j : Int)) = false := decide_eq_false (by omega)
              have hzN : decide (0 < j) = false := decide_eq_false (by omega)
              clear hs5 hj9
              go_upto_region 19 with fail
              go_quiet (first | (go_at_call 29; exact quiet_id (in3_yes _ _ _ _ (by omega) (by omega)) ⟨_, rfl⟩))
              clear f1 f2 hle
              have HS6 := Lib.hid (HS5.out.drewN nq)
              have HB6 := Lib.hid (HB5.out.trans (below_drewN g wr nq))
              clear c1 HS5 HB5
              generalize wr.drewN nq = wn at *
              obtain ⟨gl', ol', he, c1, -⟩ := Sep.intsAt (A := []) (by rw [← HKL.out] at HS6; exact HS6.out) hxI
              simp only [Option.some.injEq, Addr.mk.injEq, and_true] at he
              obtain ⟨rfl, rfl⟩ := he
              obtain ⟨g', o', he, _, n1, n2, nset⟩ := arrI_at (A := [_]) (C := [_]) HS6.out hxn
              simp only [Option.some.injEq, Addr.mk.injEq, and_true] at he
              obtain ⟨rfl, rfl⟩ := he
              simp only [Nat.zero_add] at n1 n2 nset
              obtain ⟨tv, htv⟩ : ∃ tv, tv = tldJ m L o a j x := ⟨_, rfl⟩
              have htb : tv ≤ 10 := by have := tldJ_few m L o a j x; omega
              rw [← htv] at n1
              have hset := nset ((tv : Int) + 1)
              rw [show arr (fun i => if i = x then (tv : Int) + 1 else ((tldJ m L o a j i : Nat) : Int)) m = arr (fun i => ((tldJ m L o a (j + 1) i : Nat) : Int)) m from arr_congr fun i _ => by
                rw [← tldJ_next hxk i, htv]
                split <;> rfl] at hset
              have HS7 := Lib.hid hset.drew
              have HB7 := Lib.hid ((HB6.out.setCell (p := ⟨gt, x, none⟩) ((Sep.mem (A := [_]) HS6.out).2 gt rfl).1 (.int .i64 ((tv : Int) + 1))).drew)
              clear hset nset htv hxk hxI HS6 HB6
              go_wp2_with fail
              go_region
              all_goals
                go_wp2
                go_roundg (gj - 1)
                case measure => omega
                case rel => exact ⟨j + 1, by omega, by go_num, HS7.out, HB7.out⟩
            · obtain ⟨q, hq⟩ : ∃ q, j = q + 1 := ⟨j - 1, by omega⟩
              obtain ⟨y, hyk⟩ : ∃ y, (kidL m L o a m)[q]? = some y := ⟨_, List.getElem?_eq_getElem (by rw [← HN.out]; omega)⟩
              have hyI : (kidI m L o a m)[q]? = some (y : Int) := by unfold kidI; rw [List.getElem?_map, hyk]; rfl
              obtain ⟨gl', ol', he, c2, -⟩ := Sep.intsAt hs5 hyI
              simp only [Option.some.injEq, Addr.mk.injEq, and_true] at he
              obtain ⟨rfl, rfl⟩ := he
              have hyx : y < x := by
                obtain ⟨h1, rfl⟩ := List.getElem?_eq_some_iff.1 hyk
                obtain ⟨h2, rfl⟩ := List.getElem?_eq_some_iff.1 hxk
                exact List.pairwise_iff_getElem.1 (kidL_sorted m L o a m) q j h1 h2 (by omega)
              have hxy : decide ((x : Int) ≤ (y : Int)) = false := decide_eq_false (by omega)
              have hxyN : decide (x ≤ y) = false := decide_eq_false (by omega)
              have hqN : q < N := by omega
              have hqi : (q : Int) < (N : Int) := by omega
              have hqw : IntKind.i64.wrap (q : Int) = (q : Int) := by simp [IntKind.wrap, IntKind.bits, IntKind.signed]; omega
              have hq1 : (j : Int) - 1 = (q : Int) := by omega
              have hz : decide ((0 : Int) < (j : Int)) = true := decide_eq_true (by omega)
              have hz2 : (0 : Int) < (j : Int) := by omega
              have HQJ := Lib.hid hq
              clear hs5 hyk hyI hyx hq
              go_upto_region 19 with fail
              go_quiet (first | (go_at_call 29; exact quiet_id (in3_yes _ _ _ _ (by omega) (by omega)) ⟨_, rfl⟩))
              clear f1 f2 c2 hle hxy hxyN hq1 hqw
              have HS6 := Lib.hid (HS5.out.drewN nq)
              have HB6 := Lib.hid (HB5.out.trans (below_drewN g wr nq))
              clear c1 HS5 HB5
              generalize wr.drewN nq = wn at *
              obtain ⟨gl', ol', he, c1, -⟩ := Sep.intsAt (A := []) (by rw [← HKL.out] at HS6; exact HS6.out) hxI
              simp only [Option.some.injEq, Addr.mk.injEq, and_true] at he
              obtain ⟨rfl, rfl⟩ := he
              obtain ⟨g', o', he, _, n1, n2, nset⟩ := arrI_at (A := [_]) (C := [_]) HS6.out hxn
              simp only [Option.some.injEq, Addr.mk.injEq, and_true] at he
              obtain ⟨rfl, rfl⟩ := he
              simp only [Nat.zero_add] at n1 n2 nset
              obtain ⟨tv, htv⟩ : ∃ tv, tv = tldJ m L o a j x := ⟨_, rfl⟩
              have htb : tv ≤ 10 := by have := tldJ_few m L o a j x; omega
              rw [← htv] at n1
              have hset := nset ((tv : Int) + 1)
              rw [show arr (fun i => if i = x then (tv : Int) + 1 else ((tldJ m L o a j i : Nat) : Int)) m = arr (fun i => ((tldJ m L o a (j + 1) i : Nat) : Int)) m from arr_congr fun i _ => by
                rw [← tldJ_next hxk i, htv]
                split <;> rfl] at hset
              have HS7 := Lib.hid hset.drew
              have HB7 := Lib.hid ((HB6.out.setCell (p := ⟨gt, x, none⟩) ((Sep.mem (A := [_]) HS6.out).2 gt rfl).1 (.int .i64 ((tv : Int) + 1))).drew)
              clear hset nset htv hxk hxI HS6 HB6
              go_wp2_with fail
              go_region
              all_goals
                go_wp2
                go_roundg (gj - 1)
                case measure => omega
                case rel => exact ⟨j + 1, by omega, by go_num, HS7.out, HB7.out⟩
          · have hji : decide ((j : Int) < (N : Int)) = false := decide_eq_false (by omega)
            have hs9 := HS5.out.sub (List.sublist_cons_self _ _)
            rw [show arr (fun i => ((tldJ m L o a j i : Nat) : Int)) m = arr (fun i => ((tld m L o (a + 1) i : Nat) : Int)) m from arr_congr fun i hi => by rw [tldJ_end hi (by rw [← HN.out]; omega)]] at hs9
            have HS9 := Lib.hid hs9
            clear hs9 HS5
            go_wp2
            go_roundg (ga - 1)
            case measure => omega
            case rel => exact ⟨a + 1, by omega, by go_num, HS9.out, HB5.out⟩
      · have hai : decide ((a : Int) < (m : Int)) = false := decide_eq_false (by omega)
        have ham : a = m := by omega
        have hs9 := HS4.out
        rw [ham] at hs9
        have HS9 := Lib.hid hs9
        clear hs9 HS4 ham
        go_wp2
        go_loopg [16] m (fun gk iv wx => ∃ i : Nat, gk + i = m ∧ iv = .int .i64 i ∧ wx = wr)
        case atStart => exact ⟨0, by omega, rfl, rfl⟩
        case round =>
          obtain ⟨gi, rfl⟩ : ∃ gi, gi = gk := ⟨_, rfl⟩
          obtain ⟨i, hgi, rfl, hwx⟩ := hrel
          subst hwx
          by_cases hil : i < m
          · have hii : (i : Int) < (m : Int) := by omega
            have hi0 : (0 : Int) ≤ (i : Int) := by omega
            obtain ⟨g', o', he, -, t1, -, -⟩ := arrI_at (A := []) HS9.out hil
            simp only [Option.some.injEq, Addr.mk.injEq, and_true] at he
            obtain ⟨rfl, rfl⟩ := he
            obtain ⟨gf, of, rfl, -, f1, -, -⟩ := arrI_at (A := [_]) (C := []) HS9.out hil
            simp only [Nat.zero_add] at t1
            rw [tld_end HOK.out ho hil] at t1
            obtain ⟨fv, hfv⟩ : ∃ fv, fv = far (edges L) o i := ⟨_, rfl⟩
            rw [← hfv] at f1
            by_cases hio : i = o
            · have hq : ((i : Int) != (o : Int)) = false := by simp [hio]
              rw [if_neg (fun h => h.1 hio)] at t1
              clear hfv hio
              go_wp2
              go_roundg (gi - 1)
              case measure => omega
              case rel => exact ⟨i + 1, by omega, by go_num, rfl⟩
            · have hq : ((i : Int) != (o : Int)) = true := by simp; omega
              by_cases hr : Rch L o i
              · have hfl : fv < 1000 := by rw [hfv, far_swap HOK.out.net]; exact hr
                rw [if_pos ⟨hio, hr⟩] at t1
                clear hfv hio hr
                go_wp2
                go_roundg (gi - 1)
                case measure => omega
                case rel => exact ⟨i + 1, by omega, by go_num, rfl⟩
              · have hfl : decide (fv < 1000) = false := decide_eq_false fun h => hr (by show far (edges L) i o < 1000; rw [far_swap HOK.out.net, ← hfv]; exact h)
                rw [if_neg (fun h => hr h.2)] at t1
                clear hfv hio hr
                go_wp2
                go_roundg (gi - 1)
                case measure => omega
                case rel => exact ⟨i + 1, by omega, by go_num, rfl⟩
          · have hii : decide ((i : Int) < (m : Int)) = false := decide_eq_false (by omega)
            go_wp2
            go_ret
            have hb9 := HB4.out
            rw [HG.out] at hb9
            exact ⟨rfl, hb9⟩
  · have HC := Lib.hid hc
    have HC0 := Lib.hid hc0
    clear hc hc0
    go_enter Try.func6, Try.ntmps6
    go_wp2_with fail
    refine (rpfFact_any _).mono ?_
    rintro e w1 ⟨rfl, hb⟩
    have HB1 := Lib.hid (show Below g w w1 by rw [HG.out]; exact hb); clear hb
    have hg1 : g ≤ w1.heap.size := by have := HB1.out.size; rw [← HG.out] at this; exact this
    go_wp2_with fail
    refine (from_err n _ _ _ g L f c _ (HA.out.below HB1.out) rfl (by omega) hg1 HC.out HC0.out).mono ?_
    rintro e w2 ⟨rfl, hb⟩
    have HB2 := Lib.hid (HB1.out.trans (hb.mono hg1))
    clear hb
    go_wp2
    go_ret
    have hb9 := HB2.out
    rw [HG.out] at hb9
    exact ⟨rfl, hb9⟩
end Go.Proofs.Ytnmddgjgmdegoaa
