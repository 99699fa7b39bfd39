/- SpfBest returns true: what is left of a shortest way is a shortest way; the first hop is the least one. -/
import Derived.Test.YtciolkmhafdlpaaSpfFact
import Derived.Test.YtciolkmhafdlpaaCost
import Derived.Test.YtciolkmhafdlpaaSeg
import Derived.Test.YtciolkmhafdlpaaIn3
namespace Go.Proofs.Ytciolkmhafdlpaa
open Go.RowKit
set_option linter.unusedVariables false

set_option maxHeartbeats 4000000 in
set_option maxRecDepth 100000 in
theorem spfBest_walk (n : Int) (ao : Option Addr) (ac : Nat) (L : List Lnk) (f t : Int) (w : World) (_ : -9223372036854775808 ≤ n ∧ n ≤ 9223372036854775807) (hA : RowSl w.heap.size w ao 3 (L.map lnkC)) (hac : L.length ≤ ac) (hmax : ac ≤ maxLen) (hgood : ∀ x ∈ L, LnkGood x)
    (_ : -9223372036854775808 ≤ f ∧ f ≤ 9223372036854775807) (_ : -9223372036854775808 ≤ t ∧ t ≤ 9223372036854775807) :
    Calls Try.prog 8 #[.int .i64 n, .slice ao L.length ac, .int .i64 f, .int .i64 t] w fun e w' => e = .returned (.bool true) ∧ Below w.heap.size w w' := by
  unfold maxLen at hmax
  have HA := Lib.hid hA; clear hA hgood
  obtain ⟨c, hc⟩ : ∃ c, c = fCode n L f := ⟨_, rfl⟩
  by_cases hc0 : c = 0
  · obtain ⟨m, p, rfl, rfl, hp, hok⟩ := fCode_zero.1 (hc.symm.trans hc0)
    clear hc hc0
    have hn8 := hok.n8
    have hn1 := hok.n1
    have hl32 := hok.few
    have HOK := Lib.hid hok; clear hok
    obtain ⟨g, hg⟩ : ∃ g, g = w.heap.size := ⟨_, rfl⟩
    rw [← hg] at HA
    have HG := Lib.hid hg; clear hg
    go_enter Try.func8, Try.ntmps8
    go_wp2_with fail
    refine (spfFact_any _).mono ?_
    rintro e w1 ⟨rfl, hb⟩
    have HB1 := Lib.hid (show Below g w w1 by rw [HG.out]; exact hb); clear hb
    have hg1 : g ≤ w1.heap.size := by have := HB1.out.size; rw [← HG.out] at this; exact this
    go_wp2_with fail
    refine (from_ok m _ _ _ g L p _ (HA.out.below HB1.out) rfl hg1 HOK.out hp).mono ?_
    rintro e w2 ⟨vf, vh, hf, rfl, hhop, hs, hb⟩
    obtain ⟨af, cf, rfl, hcf, _⟩ := hs.intsShape (A := []) (C := [_])
    obtain ⟨ah, ch, rfl, hch, _⟩ := hs.intsShape (A := [_]) (C := [])
    have hfarc := fun (k : Nat) (hk : k < m) => (hs.intSl (A := []) (C := [_])) k _ (arr_get hk)
    have hhopc := fun (k : Nat) (hk : k < m) => (hs.intSl (A := [_]) (C := [])) k _ (arr_get hk)
    rw [arr_len, arr_len] at ⊢
    rw [arr_len] at hcf hch
    have HB2 := Lib.hid (HB1.out.trans (hb.mono hg1))
    have hg2 : g ≤ w2.heap.size := by have := HB2.out.size; rw [← HG.out] at this; exact this
    have hmm : ((m : Int) != (m : Int)) = false := by simp
    clear hs hb
    by_cases ht : 0 ≤ t ∧ t ≤ (m : Int) - 1
    · obtain ⟨q, rfl⟩ := Int.eq_ofNat_of_zero_le ht.1
      have hq : q < m := by omega
      obtain ⟨bf, of', rfl, hbf, cft⟩ := hfarc q hq
      obtain ⟨bh, oh, rfl, hbh, cht⟩ := hhopc q hq
      have hh := hhop q hq
      clear hfarc hhopc hhop
      obtain ⟨h, hhd⟩ : ∃ h, h = hf q := ⟨_, rfl⟩
      rw [← hhd] at hh cht
      obtain ⟨D, hD⟩ : ∃ D : Nat → Int, D = fun x => far (edges L) x q := ⟨_, rfl⟩
      have hDp : far (edges L) p q = D p := by rw [hD]
      have hDr : ∀ x, 0 ≤ D x ∧ D x ≤ 1000 := fun x => by rw [hD]; exact ⟨far_nonneg HOK.out.net, far_le HOK.out.net⟩
      have HD := Lib.hid hD
      have HDR := Lib.hid hDr
      rw [hDp] at cft
      clear hD hDr hhd
      have hqi : (q : Int) < (m : Int) := by omega
      obtain ⟨dp, hdp⟩ : ∃ dp, dp = D p := ⟨_, rfl⟩
      rw [← hdp] at cft
      have hdr := HDR.out p
      rw [← hdp] at hdr
      rw [← hdp] at hDp
      have HDP := Lib.hid hDp; clear hDp
      have HDPP := Lib.hid hdp; clear hdp
      obtain ⟨t1, t2⟩ := ht
      go_wp2_with fail
      refine (in3_yes (q : Int) 0 ((m : Int) - 1) _ t1 t2).mono ?_
      rintro e w' ⟨rfl, rfl⟩
      rcases hh with ⟨h1, h2⟩ | ⟨⟨h1, h1'⟩, y, h2, h3, ⟨c, h4, h4'⟩, h5⟩
      · subst h2
        by_cases hpq : q = p
        · have hb1 : ((q : Int) == (p : Int)) = true := by simp [hpq]
          clear h1 hpq
          go_wp2
          go_ret
          exact ⟨rfl, by have := HB2.out; rw [HG.out] at this; exact this⟩
        · have hb1 : ((q : Int) == (p : Int)) = false := by simp; omega
          have hd1 : dp = 1000 := by
            rcases h1 with h1 | h1
            · exact absurd h1.symm hpq
            · rw [HDP.out] at h1; exact h1
          have hb2 : (dp == 1000) = true := by simp [hd1]
          clear h1 hpq hd1
          go_wp2
          go_ret
          exact ⟨rfl, by have := HB2.out; rw [HG.out] at this; exact this⟩
      · subst h2
        rw [HDP.out] at h1'
        have hb1 : ((q : Int) == (p : Int)) = false := by simp; omega
        have hb2 : (dp == 1000) = false := by simp; omega
        have hy1 : (y : Int) ≤ (m : Int) - 1 := by omega
        have hy0 : (0 : Int) ≤ (y : Int) := by omega
        have hdom := HOK.out.net.dom _ _ _ h4
        have hyp : ¬ y = p := fun e => hdom.2.2.1 e.symm
        have hcy := cst_lt HOK.out h4
        have hky := hop_cst HOK.out hq h4 h4'
        have hleast : ∀ k, k < m → ¬ cst L p k = 1000 → cst L p k + D k = dp → y ≤ k := fun k hk hne he => by
          refine h5 k (cst L p k) (cst_edge HOK.out hne) ?_
          rw [HDP.out, ← he, HD.out]
        have htri : ∀ k, k < m → ¬ cst L p k = 1000 → dp ≤ cst L p k + D k := fun k hk hne => by
          have := far_edge HOK.out.net hn8 hq (cst_edge HOK.out hne)
          rw [HDP.out] at this
          rw [HD.out]
          exact this
        rw [HDP.out] at hky
        have hky' : cst L p y + D y = dp := by rw [HD.out]; exact hky
        have HLEAST := Lib.hid hleast
        have HTRI := Lib.hid htri
        have HKY := Lib.hid hky'
        have hcy20 := hcy.2
        have HCY := Lib.hid hcy20
        have HYP := Lib.hid hyp
        clear h1 h1' h4 h4' h5 hdom hyp hcy hky hky' hleast htri hcy20
        go_wp2_with fail
        refine (in3_yes (y : Int) 0 ((m : Int) - 1) _ hy0 hy1).mono ?_
        rintro e w' ⟨rfl, rfl⟩
        go_wp2
        go_loopg [13] m (fun gk iv wr => ∃ k : Nat, gk + k = m ∧ iv = .int .i64 k ∧ Below w2.heap.size w2 wr)
        case atStart => exact ⟨0, by omega, rfl, Below.refl _ _⟩
        case round =>
          obtain ⟨gi, rfl⟩ : ∃ gi, gi = gk := ⟨_, rfl⟩
          obtain ⟨k, hgk, rfl, hbel⟩ := hrel
          have HBW := Lib.hid hbel; clear hbel
          have hgw : g ≤ wr.heap.size := Nat.le_trans hg2 HBW.out.size
          by_cases hlt : k < m
          · have hkm : (k : Int) < (m : Int) := by omega
            have HAW := Lib.hid (HA.out.below (HB2.out.trans (HBW.out.mono hg2)))
            have dft : wr.cell? ⟨bf, of' + q, none⟩ = some (.int .i64 dp) := (HBW.out.cell (p := ⟨bf, of' + q, none⟩) hbf).trans cft
            have dht : wr.cell? ⟨bh, oh + q, none⟩ = some (.int .i64 y) := (HBW.out.cell (p := ⟨bh, oh + q, none⟩) hbh).trans cht
            obtain ⟨cc, hcc⟩ : ∃ cc, cc = cst L p k := ⟨_, rfl⟩
            go_wp2_with fail
            refine (cost_any ao _ ac g L p k wr HAW.out rfl (by omega)).mono ?_
            rintro e w' ⟨rfl, rfl⟩
            rw [show cstI (p : Int) (k : Int) L 1000 = cc from hcc.symm]
            have HCC := Lib.hid hcc; clear hcc
            by_cases hkp : k = p
            · have hbk : ((k : Int) == (p : Int)) = true := by simp [hkp]
              have hby : ((k : Int) == (y : Int)) = false := by have := HYP.out; simp; omega
              clear hkp
              go_wp2
              go_roundg (gi - 1)
              case measure => omega
              case rel => exact ⟨k + 1, by omega, by first | rfl | go_num, HBW.out⟩
            · have hbk : ((k : Int) == (p : Int)) = false := by simp; omega
              by_cases hc1 : cc = 1000
              · have hb3 : (cc == 1000) = true := by simp [hc1]
                have hby : ((k : Int) == (y : Int)) = false := by
                  simp
                  intro e
                  have := HCY.out
                  have e' : k = y := by omega
                  rw [← e', ← HCC.out] at this
                  omega
                clear hkp hc1
                go_wp2
                go_roundg (gi - 1)
                case measure => omega
                case rel => exact ⟨k + 1, by omega, by first | rfl | go_num, HBW.out⟩
              · have hb3 : (cc == 1000) = false := by simp [hc1]
                have htr := HTRI.out k hlt (by rw [← HCC.out]; exact hc1)
                have hle := HLEAST.out k hlt (by rw [← HCC.out]; exact hc1)
                rw [← HCC.out] at htr hle
                have hcr : 1 ≤ cc ∧ cc ≤ 20 := by
                  have := HOK.out.net.dom _ _ _ (cst_edge HOK.out (u := p) (v := k) (by rw [← HCC.out]; exact hc1))
                  rw [← HCC.out] at this
                  omega
                have hkr := HDR.out k
                obtain ⟨dk, hdk⟩ : ∃ dk, dk = D k := ⟨_, rfl⟩
                rw [← hdk] at htr hle hkr
                have hkyy : k = y → cc + dk = dp := fun e => by
                  have := HKY.out
                  rw [← e, ← HCC.out, ← hdk] at this
                  exact this
                have HDK := Lib.hid hdk
                have HLE := Lib.hid hle
                have HKYY := Lib.hid hkyy
                clear hkp hc1 hdk hle hkyy dft dht
                go_wp2_with fail
                refine (from_ok m _ _ _ g L k _ HAW.out rfl hgw HOK.out hlt).mono ?_
                rintro e w3 ⟨vf, vh, hf2, rfl, hhop, hs, hb⟩
                obtain ⟨af, cf2, rfl, hcf2, _⟩ := hs.intsShape (A := []) (C := [_])
                obtain ⟨bg, og, rfl, hbg, crt⟩ := (hs.intSl (A := []) (C := [_])) q _ (arr_get hq)
                have hfk : far (edges L) k q = dk := by rw [HDK.out, HD.out]
                rw [hfk] at crt
                rw [arr_len] at hcf2 ⊢
                have HB3 := Lib.hid (HBW.out.trans (hb.mono HBW.out.size))
                have dft : w3.cell? ⟨bf, of' + q, none⟩ = some (.int .i64 dp) := (HB3.out.cell (p := ⟨bf, of' + q, none⟩) hbf).trans cft
                have dht : w3.cell? ⟨bh, oh + q, none⟩ = some (.int .i64 y) := (HB3.out.cell (p := ⟨bh, oh + q, none⟩) hbh).trans cht
                obtain ⟨sm, hsm⟩ : ∃ sm, sm = cc + dk := ⟨_, rfl⟩
                have hwr : IntKind.i64.wrap (cc + dk) = sm := by rw [hsm]; simp [IntKind.wrap, IntKind.bits, IntKind.signed]; omega
                have hd1 : decide (sm < dp) = false := decide_eq_false (by omega)
                have HSM := Lib.hid hsm
                clear hs hb hhop hsm htr
                by_cases hky : k = y
                · have hb4 : ((k : Int) == (y : Int)) = true := by simp [hky]
                  have hb5 : (sm != dp) = false := by have := HKYY.out hky; have := HSM.out; simp; omega
                  have hb6 : decide ((k : Int) < (y : Int)) = false := decide_eq_false (by omega)
                  have hlk : ¬ k < y := by omega
                  clear hky
                  go_wp2
                  go_roundg (gi - 1)
                  case measure => omega
                  case rel => exact ⟨k + 1, by omega, by first | rfl | go_num, HB3.out⟩
                · have hb4 : ((k : Int) == (y : Int)) = false := by simp; omega
                  by_cases hlk : k < y
                  · have hb6 : decide ((k : Int) < (y : Int)) = true := decide_eq_true (by omega)
                    have hb7 : (sm == dp) = false := by
                      simp
                      intro e
                      have := HLE.out (by rw [← HSM.out]; exact e)
                      omega
                    clear hky
                    go_wp2
                    go_roundg (gi - 1)
                    case measure => omega
                    case rel => exact ⟨k + 1, by omega, by first | rfl | go_num, HB3.out⟩
                  · have hb6 : decide ((k : Int) < (y : Int)) = false := decide_eq_false (by omega)
                    clear hky
                    go_wp2
                    go_roundg (gi - 1)
                    case measure => omega
                    case rel => exact ⟨k + 1, by omega, by first | rfl | go_num, HB3.out⟩
          · have hkm : decide ((k : Int) < (m : Int)) = false := decide_eq_false (by omega)
            go_wp2
            go_ret
            exact ⟨rfl, by have := HB2.out.trans (HBW.out.mono hg2); rw [HG.out] at this; exact this⟩
    · have HT := Lib.hid ht; clear ht
      clear hfarc hhopc hhop
      go_wp2_with fail
      refine (in3_no t 0 ((m : Int) - 1) _ HT.out).mono ?_
      rintro e w' ⟨rfl, rfl⟩
      go_wp2
      go_ret
      exact ⟨rfl, by have := HB2.out; rw [HG.out] at this; exact this⟩
  · have HC := Lib.hid hc; clear hc
    have H0 := Lib.hid hc0; clear hc0
    go_enter Try.func8, Try.ntmps8
    go_wp2_with fail
    refine (spfFact_any _).mono ?_
    rintro e w1 ⟨rfl, hb⟩
    have HB := Lib.hid hb; clear hb
    go_wp2_with fail
    refine (from_err _ _ _ _ _ L _ c _ (HA.out.below HB.out) rfl (by omega) HB.out.size HC.out H0.out).mono ?_
    rintro e w2 ⟨rfl, hb⟩
    have HB2 := Lib.hid (HB.out.trans (hb.mono HB.out.size)); clear hb
    go_wp2
    go_ret
    exact ⟨rfl, HB2.out⟩
end Go.Proofs.Ytciolkmhafdlpaa
