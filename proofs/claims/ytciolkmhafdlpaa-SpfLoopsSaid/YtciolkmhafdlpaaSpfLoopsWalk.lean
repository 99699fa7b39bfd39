/- SpfLoops returns true: the way has no point twice, goes over links, and is as long as it was said to be. -/
import Derived.Test.YtciolkmhafdlpaaSpfFact
import Derived.Test.YtciolkmhafdlpaaCost
import Derived.Test.YtciolkmhafdlpaaSeg
import Derived.Test.YtciolkmhafdlpaaIn3
import Derived.Test.YtciolkmhafdlpaaHas1
namespace Go.Proofs.Ytciolkmhafdlpaa
open Go.RowKit
set_option linter.unusedVariables false

set_option maxHeartbeats 4000000 in
set_option maxRecDepth 100000 in
theorem spfLoops_walk (n : Int) (ao : Option Addr) (ac : Nat) (L : List Lnk) (f t : Int) (w : World) (_ : -9223372036854775808 ≤ n ∧ n ≤ 9223372036854775807) (hA : RowSl w.heap.size w ao 3 (L.map lnkC)) (hac : L.length ≤ ac) (hmax : ac ≤ maxLen) (hgood : ∀ x ∈ L, LnkGood x)
    (_ : -9223372036854775808 ≤ f ∧ f ≤ 9223372036854775807) (_ : -9223372036854775808 ≤ t ∧ t ≤ 9223372036854775807) :
    Calls Try.prog 7 #[.int .i64 n, .slice ao L.length ac, .int .i64 f, .int .i64 t] w fun e w' => e = .returned (.bool true) ∧ Below w.heap.size w w' := by
  unfold maxLen at hmax
  have HA := Lib.hid hA; clear hA hgood
  obtain ⟨c, hc⟩ : ∃ c, c = yCode n L f t := ⟨_, rfl⟩
  by_cases hc0 : c = 0
  · obtain ⟨m, p, q, rfl, rfl, rfl, hp, hq, hok, hfar⟩ := yCode_zero.1 (hc.symm.trans hc0)
    clear hc hc0
    have hn8 := hok.n8
    have hl32 := hok.few
    have HOK := Lib.hid hok; clear hok
    have HFAR := Lib.hid hfar; clear hfar
    obtain ⟨g, hg⟩ : ∃ g, g = w.heap.size := ⟨_, rfl⟩
    rw [← hg] at HA
    have HG := Lib.hid hg; clear hg
    have hqi : (q : Int) < (m : Int) := by omega
    go_enter Try.func7, Try.ntmps7
    go_wp2_with fail
    refine (spfFact_any _).mono ?_
    rintro e w1 ⟨rfl, hb⟩
    have HB1 := Lib.hid (show Below g w w1 by rw [HG.out]; exact hb); clear hb
    have hg1 : g ≤ w1.heap.size := by have := HB1.out.size; rw [← HG.out] at this; exact this
    go_wp2_with fail
    refine (way_ok m _ _ _ g L p q _ (HA.out.below HB1.out) rfl hg1 HOK.out hp hq HFAR.out).mono ?_
    rintro e w2 ⟨v, l, rfl, hseg, hll, hs, hb⟩
    obtain ⟨al, cl, rfl, hcl, _⟩ := hs.intsShape (A := []) (C := [])
    have HX := Lib.hid (hs.intSl (A := []) (C := []))
    have HB2 := Lib.hid (HB1.out.trans (hb.mono hg1))
    have hg2 : g ≤ w2.heap.size := by have := HB2.out.size; rw [← HG.out] at this; exact this
    rw [segL_len] at hcl ⊢
    clear hs hb
    go_wp2_with fail
    refine (from_ok m _ _ _ g L p _ (HA.out.below HB2.out) rfl hg2 HOK.out hp).mono ?_
    rintro e w3 ⟨vf, vh, hf, rfl, hhop, hs, hb⟩
    obtain ⟨af, cf, rfl, hcf, _⟩ := hs.intsShape (A := []) (C := [_])
    obtain ⟨ah, ch, rfl, hch, _⟩ := hs.intsShape (A := [_]) (C := [])
    have hfarc := fun (k : Nat) (hk : k < m) => (hs.intSl (A := []) (C := [_])) k _ (arr_get hk)
    rw [arr_len, arr_len] at ⊢
    rw [arr_len] at hcf hch
    have HX3 := Lib.hid ((HX.out.below hb).mono hb.size)
    have HB3 := Lib.hid (HB2.out.trans (hb.mono hg2))
    have hg3 : g ≤ w3.heap.size := by have := HB3.out.size; rw [← HG.out] at this; exact this
    obtain ⟨bf, of', rfl, hbf, cft⟩ := hfarc q hq
    clear hs hb hhop hfarc HX
    obtain ⟨N, hN⟩ : ∃ N, N = l.length + 1 := ⟨_, rfl⟩
    rw [← hN] at hcl ⊢
    have HSEG := Lib.hid hseg; clear hseg
    have hx0 : (segL l q)[0]? = some (p : Int) := by
      unfold segL; rw [List.getElem?_map, HSEG.out.first]; rfl
    obtain ⟨bl, ol, rfl, hbl, cx0⟩ := HX3.out 0 _ hx0
    have hxl : (segL l q)[l.length]? = some (q : Int) := by
      unfold segL; rw [List.getElem?_map, List.getElem?_append_right (Nat.le_refl _), Nat.sub_self]; rfl
    obtain ⟨bl2, ol2, he, _, cxl⟩ := HX3.out _ _ hxl
    simp only [Option.some.injEq, Addr.mk.injEq, and_true] at he
    obtain ⟨rfl, rfl⟩ := he
    simp only [Nat.add_zero] at cx0
    have hn1 : (N : Int) - 1 = (l.length : Int) := by omega
    have hlw : IntKind.i64.wrap (l.length : Int) = (l.length : Int) := by simp [IntKind.wrap, IntKind.bits, IntKind.signed]; omega
    have hlN : (l.length : Int) < (N : Int) := by omega
    have hN0 : ((N : Int) == 0) = false := by simp; omega
    have hmm : ((m : Int) != (m : Int)) = false := by simp
    have hpp : ((p : Int) != (p : Int)) = false := by simp
    have hqq : ((q : Int) != (q : Int)) = false := by simp
    have hN1 : N ≤ 1001 := by omega
    have HN := Lib.hid hN
    clear hx0 hxl hN
    go_wp2_with fail
    refine (in3_yes (q : Int) 0 ((m : Int) - 1) _ (by omega) (by omega)).mono ?_
    rintro e w' ⟨rfl, rfl⟩
    clear cx0 cxl hpp hqq hmm hN0 hn1
    go_wp2_with fail
    obtain ⟨D, hD⟩ : ∃ D : Nat → Int, D = fun x => far (edges L) x q := ⟨_, rfl⟩
    have hDp : far (edges L) p q = D p := by rw [hD]
    have hDq : D q = 0 := by rw [hD]; exact far_self HOK.out.net
    have hDr : ∀ x, 0 ≤ D x ∧ D x ≤ 1000 := fun x => by rw [hD]; exact ⟨far_nonneg HOK.out.net, far_le HOK.out.net⟩
    have HD := Lib.hid hD
    have HDQ := Lib.hid hDq
    have HDR := Lib.hid hDr
    rw [hDp] at cft
    clear hD hDq hDr hDp
    go_loopg [14, 15] l.length (fun gk sv iv wr => ∃ (j x : Nat), gk + (j + 1) = N ∧ iv = .int .i64 ((j : Int) + 1) ∧ sv = .int .i64 (D p - D x) ∧ Hid ((l ++ [q])[j]? = some x) ∧ Below w3.heap.size w3 wr)
    case atStart => exact ⟨0, p, by have := HN.out; omega, by first | rfl | go_num, by first | rfl | (simp; done) | go_num, HSEG.out.first, Below.refl _ _⟩
    case round =>
      obtain ⟨gi, rfl⟩ : ∃ gi, gi = gk := ⟨_, rfl⟩
      obtain ⟨j, x, hgj, rfl, rfl, hx, hbel⟩ := hrel
      have HBW := Lib.hid hbel; clear hbel
      by_cases hlt : j + 1 < N
      · obtain ⟨y, hy⟩ : ∃ y, (l ++ [q])[j + 1]? = some y := ⟨_, List.getElem?_eq_getElem (by have := HN.out; simp; omega)⟩
        obtain ⟨h1, h2, h3⟩ := HSEG.out.step j x y hx.out hy
        obtain ⟨hyn, hst, hne, hc1, hc20⟩ := hop_step HOK.out hq h2 h1 h3
        have honce := HSEG.out.once HOK.out hq hy
        have hxi : (segL l q)[j]? = some (x : Int) := by unfold segL; rw [List.getElem?_map, hx.out]; rfl
        have hyi : (segL l q)[j + 1]? = some (y : Int) := by unfold segL; rw [List.getElem?_map, hy]; rfl
        obtain ⟨b1, o1, he, _, cx⟩ := (HX3.out.below HBW.out) _ _ hxi
        simp only [Option.some.injEq, Addr.mk.injEq, and_true] at he
        obtain ⟨rfl, rfl⟩ := he
        obtain ⟨b1, o1, he, _, cy⟩ := (HX3.out.below HBW.out) _ _ hyi
        simp only [Option.some.injEq, Addr.mk.injEq, and_true] at he
        obtain ⟨rfl, rfl⟩ := he
        have hhas : ∀ q' : Nat, Calls Try.prog 14 #[.slice (some ⟨bl, ol, none⟩) (j + 1) cl, .int .i64 y] (wr.drewN q') fun e w' => e = .returned (.bool false) ∧ wr.drewN q' = w' := fun q' =>
          has1_any _ cl (j + 1) _ ((segL l q).take (j + 1)) y false _ (((HX3.out.below HBW.out).below (below_drewN _ wr q')).take) (by rw [List.length_take, segL_len, ← HN.out]; omega) (by rw [List.length_take, segL_len]; omega) (by
            symm; rw [decide_eq_false_iff_not]
            intro hm
            unfold segL at hm
            rw [← List.map_take] at hm
            obtain ⟨z, hz, hzy⟩ := List.mem_map.1 hm
            obtain rfl : z = y := by omega
            exact honce hz)
        have hcost : ∀ W, Below w3.heap.size w3 W → Calls Try.prog 24 #[.slice ao L.length ac, .int .i64 x, .int .i64 y] W fun e w' => e = .returned (.int .i64 (cst L x y)) ∧ W = w' := fun W hW =>
          cost_any ao _ ac g L x y W (HA.out.below (HB3.out.trans (hW.mono hg3))) rfl (by omega)
        obtain ⟨cc, hcc⟩ : ∃ cc, cc = cst L x y := ⟨_, rfl⟩
        rw [← hcc] at hcost hst hne hc1 hc20
        have hDx : D x = cc + D y := by have := HD.out; rw [this]; simp only; omega
        obtain ⟨s1, hs1⟩ : ∃ s1, s1 = D p - D x := ⟨_, rfl⟩
        obtain ⟨s2, hs2⟩ : ∃ s2, s2 = D p - D y := ⟨_, rfl⟩
        rw [← hs1]
        have hr1 := HDR.out p
        have hr2 := HDR.out x
        have hr3 := HDR.out y
        have hw12 : IntKind.i64.wrap (s1 + cc) = s2 := by rw [hs1, hs2]; simp [IntKind.wrap, IntKind.bits, IntKind.signed]; omega
        have HHAS := Lib.hid hhas
        have HXI := Lib.hid hxi
        have HYI := Lib.hid hyi
        have HCOST := Lib.hid hcost
        have HS2 := Lib.hid hs2
        have HY := Lib.hid hy
        have hc1000 : (cc == 1000) = false := by simp; omega
        have hjN : (j : Int) + 1 < (N : Int) := by omega
        have hj0 : (0 : Int) ≤ (j : Int) := by omega
        have hjl : j + 1 ≤ cl := by omega
        have hjc : (j : Int) + 1 ≤ (cl : Int) := by omega
        have hjw : IntKind.i64.wrap ((j : Int) + 1 - 1) = (j : Int) := by rw [show (j : Int) + 1 - 1 = j by omega]; simp [IntKind.wrap, IntKind.bits, IntKind.signed]; omega
        clear hhas hcost hs1 hs2 hr1 hr2 hr3 hDx hcc hc1 hc20 hne hst honce hxi hyi hx hy h1 h2 h3
        go_wp2_with fail
        go_quiet (first | (go_at_call 14; exact quiet_id (HHAS.out _) ⟨_, rfl⟩))
        have HB6 := Lib.hid (HBW.out.trans (below_drewN _ wr nq))
        clear cx cy HHAS HBW
        generalize wr.drewN nq = w6 at *
        have hcw : ∀ q' : Nat, Calls Try.prog 24 #[.slice ao L.length ac, .int .i64 x, .int .i64 y] (w6.drewN q') fun e w' => e = .returned (.int .i64 cc) ∧ w6.drewN q' = w' := fun q' => HCOST.out _ (HB6.out.trans (below_drewN _ w6 q'))
        have HCW := Lib.hid hcw; clear hcw HCOST
        obtain ⟨b1, o1, he, _, cx⟩ := (HX3.out.below HB6.out) _ _ HXI.out
        simp only [Option.some.injEq, Addr.mk.injEq, and_true] at he
        obtain ⟨rfl, rfl⟩ := he
        obtain ⟨b1, o1, he, _, cy⟩ := (HX3.out.below HB6.out) _ _ HYI.out
        simp only [Option.some.injEq, Addr.mk.injEq, and_true] at he
        obtain ⟨rfl, rfl⟩ := he
        go_wp2_with fail
        go_quiet (first | (go_at_call 24; exact quiet_id (HCW.out _) ⟨_, rfl⟩))
        have HB7 := Lib.hid (HB6.out.trans (below_drewN _ w6 nq))
        clear cx cy HCW HB6
        generalize w6.drewN nq = w7 at *
        go_wp2
        go_roundg (gi - 1)
        case measure => omega
        case rel => exact ⟨j + 1, y, by omega, by first | rfl | go_num, by first | rfl | rw [HS2.out] | (rw [← HS2.out]; done), HY.out, HB7.out⟩
      · have hj : j = l.length := by have := HN.out; omega
        have hxq : x = q := by
          have h := hx.out
          rw [hj, List.getElem?_append_right (Nat.le_refl _), Nat.sub_self] at h
          simp at h; exact h.symm
        subst hxq
        have cfw : wr.cell? ⟨bf, of' + x, none⟩ = some (.int .i64 (D p)) := (HBW.out.cell (p := ⟨bf, of' + x, none⟩) hbf).trans cft
        rw [HDQ.out]
        have hjN : decide ((j : Int) + 1 < (N : Int)) = false := decide_eq_false (by omega)
        obtain ⟨dp, hdp⟩ : ∃ dp, dp = D p := ⟨_, rfl⟩
        rw [← hdp] at cfw ⊢
        rw [Int.sub_zero]
        have hee : (dp == dp) = true := by simp
        clear hdp cft
        go_wp2
        go_ret
        exact ⟨rfl, by have := HB3.out.trans (HBW.out.mono hg3); rw [HG.out] at this; exact this⟩
  · have HC := Lib.hid hc; clear hc
    have H0 := Lib.hid hc0; clear hc0
    go_enter Try.func7, Try.ntmps7
    go_wp2_with fail
    refine (spfFact_any _).mono ?_
    rintro e w1 ⟨rfl, hb⟩
    have HB := Lib.hid hb; clear hb
    go_wp2_with fail
    refine (way_err _ _ _ _ _ L _ _ c _ (HA.out.below HB.out) rfl (by omega) HB.out.size HC.out H0.out).mono ?_
    rintro e w2 ⟨rfl, hb⟩
    have HB2 := Lib.hid (HB.out.trans (hb.mono HB.out.size)); clear hb
    go_wp2
    go_ret
    exact ⟨rfl, HB2.out⟩
end Go.Proofs.Ytciolkmhafdlpaa
