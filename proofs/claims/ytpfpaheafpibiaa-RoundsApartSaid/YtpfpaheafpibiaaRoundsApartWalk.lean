/- RoundsApart returns true: what one queue has more harms no other one by more. -/
import Derived.Test.YtpfpaheafpibiaaRndFact
import Derived.Test.YtpfpaheafpibiaaRoundsSoonWalk
import Derived.Test.YtpfpaheafpibiaaApartPlain
import Derived.Test.YtpfpaheafpibiaaCountOf
import Derived.Test.YtpfpaheafpibiaaBehind
import Derived.Test.YtpfpaheafpibiaaIn3
import Derived.Test.YtpfpaheafpibiaaRws
import Derived.BigQuiet
namespace Go.Proofs.Ytpfpaheafpibiaa
open Go.RowKit
set_option linter.unusedVariables false
set_option linter.unusedSimpArgs false
set_option maxRecDepth 100000

theorem elemS : ElemTy Try.prog 22 24 1 24 (.slice none 0 0) := ⟨Try.underlying22, info_parts (by kernel_rfl), rfl, by decide⟩
theorem Sep.rowCap {B : Nat} {w : World} {A C : List Ent} {ao : Option Addr} {n cap size : Nat} {e : TypeId} {xs : List Value} (h : Sep B w (A ++ Ent.row (.slice ao n cap) n size e xs :: C)) : n ≤ cap ∧ cap ≤ maxLen := by
  rcases h.mem.1.2 with ⟨h1, h2⟩ | ⟨g, off, cap', cur, hv, _, h1, h2, _⟩
  · simp only [Value.slice.injEq] at h1
    obtain ⟨_, _, rfl⟩ := h1
    exact ⟨by omega, Nat.zero_le _⟩
  · simp only [Value.slice.injEq] at hv
    obtain ⟨_, _, rfl⟩ := hv
    exact ⟨h1, h2⟩

set_option maxHeartbeats 1000000 in
theorem apart_err (ao : Option Addr) (ac : Nat) (rs : List Stp) (a more c : Int) (w : World) (hA : RowSl w.heap.size w ao 1 (rs.map stpC)) (hr : StpsOk w.heap.size w rs) (hl : rs.length ≤ 9223372036854775807) (hc : c = checkCode (rowsOf rs)) (hc0 : ¬ c = 0) :
    Calls Try.prog 4 #[.slice ao rs.length ac, .int .i64 a, .int .i64 more] w fun e w' => e = .returned (.bool true) ∧ Below w.heap.size w w' := by
  have HA := Lib.hid hA
  have HR := Lib.hid hr
  have hcc := Lib.hid hc
  have HC0 := Lib.hid hc0
  clear hA hr hc hc0
  go_enter Try.func4, Try.ntmps4
  go_wp2_with fail
  refine (rndFact_any _).mono ?_
  rintro e w1 ⟨rfl, hb⟩
  have HB1 := Lib.hid hb
  clear hb
  go_wp2_with fail
  refine (rndRun_err _ _ _ _ rs c _ (HA.out.below HB1.out) (HR.out.below HB1.out) rfl (by omega) hcc.out HC0.out).mono ?_
  rintro e w' ⟨rfl, rfl⟩
  rw [errV_not HC0.out]
  go_wp2_with fail
  refine (rndBits_err _ _ _ _ rs c _ (HA.out.below HB1.out) (HR.out.below HB1.out) rfl (by omega) hcc.out HC0.out).mono ?_
  rintro e w' ⟨rfl, rfl⟩
  rw [errV_not HC0.out]
  go_wp2
  go_ret
  exact ⟨rfl, HB1.out⟩
set_option maxHeartbeats 1000000 in
theorem apart_out (ao : Option Addr) (ac : Nat) (rs : List Stp) (a more : Int) (w : World) (hA : RowSl w.heap.size w ao 1 (rs.map stpC)) (hr : StpsOk w.heap.size w rs) (hok : QsOk (rowsOf rs)) (hn : ¬ (0 ≤ a ∧ a ≤ (rs.length : Int) - 1 ∧ 1 ≤ more ∧ more ≤ 20)) :
    Calls Try.prog 4 #[.slice ao rs.length ac, .int .i64 a, .int .i64 more] w fun e w' => e = .returned (.bool true) ∧ Below w.heap.size w w' := by
  have hn5 : rs.length ≤ 5 := by rw [← rowsOf_len]; exact hok.few
  have HA := Lib.hid hA
  have HR := Lib.hid hr
  have HOK := Lib.hid hok
  by_cases ha : 0 ≤ a ∧ a ≤ (rs.length : Int) - 1
  · have HN : Hid (¬ (1 ≤ more ∧ more ≤ 20)) := Lib.hid (fun h => hn ⟨ha.1, ha.2, h⟩)
    obtain ⟨ha1, ha2⟩ := ha
    clear hA hr hok hn
    go_enter Try.func4, Try.ntmps4
    go_wp2_with fail
    refine (rndFact_any _).mono ?_
    rintro e w1 ⟨rfl, hb⟩
    have HB1 := Lib.hid hb
    clear hb
    go_wp2_with fail
    refine (rndRun_ok _ _ _ _ rs _ (HA.out.below HB1.out) (HR.out.below HB1.out) rfl HB1.out.size HOK.out).mono ?_
    rintro e w2 ⟨va, vb, rfl, hs, hb⟩
    obtain ⟨a1, c1, rfl, hc1, -⟩ := hs.intsShape (A := [_]) (C := [])
    have HC1 := Lib.hid hc1
    clear hc1
    have HX2 := Lib.hid (hs.intSl (A := [_]) (C := []))
    have HB2 := Lib.hid (HB1.out.trans (hb.mono HB1.out.size))
    clear hs hb
    go_wp2_with fail
    refine (rndBits_ok _ _ _ _ rs _ (HA.out.below HB2.out) (HR.out.below HB2.out) rfl HB2.out.size HOK.out).mono ?_
    rintro e w3 ⟨vd, rfl, hs, hb⟩
    obtain ⟨a2, c2, rfl, -, -⟩ := hs.intsShape (A := []) (C := [])
    have HY3 := Lib.hid (hs.intSl (A := []) (C := []))
    have HX3 := Lib.hid (HX2.out.below hb)
    have HB3 := Lib.hid (HB2.out.trans (hb.mono HB2.out.size))
    have hz23 := hb.size
    clear hs hb HX2
    go_wp2_with fail
    refine (in3_yes _ _ _ _ ha1 ha2).mono ?_
    rintro e w' ⟨rfl, rfl⟩
    go_wp2_with fail
    refine (in3_no _ _ _ _ HN.out).mono ?_
    rintro e w' ⟨rfl, rfl⟩
    go_wp2
    go_ret
    exact ⟨rfl, HB3.out⟩
  · have HN := Lib.hid ha
    clear hA hr hok hn ha
    go_enter Try.func4, Try.ntmps4
    go_wp2_with fail
    refine (rndFact_any _).mono ?_
    rintro e w1 ⟨rfl, hb⟩
    have HB1 := Lib.hid hb
    clear hb
    go_wp2_with fail
    refine (rndRun_ok _ _ _ _ rs _ (HA.out.below HB1.out) (HR.out.below HB1.out) rfl HB1.out.size HOK.out).mono ?_
    rintro e w2 ⟨va, vb, rfl, hs, hb⟩
    obtain ⟨a1, c1, rfl, hc1, -⟩ := hs.intsShape (A := [_]) (C := [])
    have HC1 := Lib.hid hc1
    clear hc1
    have HX2 := Lib.hid (hs.intSl (A := [_]) (C := []))
    have HB2 := Lib.hid (HB1.out.trans (hb.mono HB1.out.size))
    clear hs hb
    go_wp2_with fail
    refine (rndBits_ok _ _ _ _ rs _ (HA.out.below HB2.out) (HR.out.below HB2.out) rfl HB2.out.size HOK.out).mono ?_
    rintro e w3 ⟨vd, rfl, hs, hb⟩
    obtain ⟨a2, c2, rfl, -, -⟩ := hs.intsShape (A := []) (C := [])
    have HY3 := Lib.hid (hs.intSl (A := []) (C := []))
    have HX3 := Lib.hid (HX2.out.below hb)
    have HB3 := Lib.hid (HB2.out.trans (hb.mono HB2.out.size))
    have hz23 := hb.size
    clear hs hb HX2
    go_wp2_with fail
    refine (in3_no _ _ _ _ HN.out).mono ?_
    rintro e w' ⟨rfl, rfl⟩
    go_wp2
    go_ret
    exact ⟨rfl, HB3.out⟩
set_option maxHeartbeats 4000000 in
theorem apart_in (ao : Option Addr) (ac : Nat) (rs : List Stp) (a m : Nat) (w : World) (hA : RowSl w.heap.size w ao 1 (rs.map stpC)) (hac : rs.length ≤ ac) (hr : StpsOk w.heap.size w rs) (hok : QsOk (rowsOf rs)) (ha : a < rs.length) (hm1 : 1 ≤ m) (hm2 : m ≤ 20) :
    Calls Try.prog 4 #[.slice ao rs.length ac, .int .i64 a, .int .i64 m] w fun e w' => e = .returned (.bool true) ∧ Below w.heap.size w w' := by
  have hn5 : rs.length ≤ 5 := by rw [← rowsOf_len]; exact hok.few
  have ha1 : (0 : Int) ≤ (a : Int) := by omega
  have ha2 : (a : Int) ≤ (rs.length : Int) - 1 := by omega
  have hm1I : (1 : Int) ≤ (m : Int) := by omega
  have hm2I : (m : Int) ≤ 20 := by omega
  obtain ⟨⟨ra, rc, q⟩, hra⟩ : ∃ r, rs[a]? = some r := ⟨_, List.getElem?_eq_getElem ha⟩
  have hrq := rowsOf_get hra
  have hq8 := (hok.all q (List.mem_iff_getElem?.2 ⟨a, hrq⟩)).1
  have hri := hr _ (List.mem_iff_getElem?.2 ⟨a, hra⟩)
  have hIQ := hri.1
  simp only at hIQ
  have HA := Lib.hid hA
  have HR := Lib.hid hr
  have HOK := Lib.hid hok
  have HRA := Lib.hid hra
  have HRQ := Lib.hid hrq
  have HIQ := Lib.hid hIQ
  obtain ⟨g, hg⟩ : ∃ g, g = w.heap.size := ⟨_, rfl⟩
  have HG := Lib.hid hg
  have hgw : g ≤ w.heap.size := Nat.le_of_eq hg
  clear hA hr hok hra hrq hri hIQ hg
  go_enter Try.func4, Try.ntmps4
  go_wp2_with fail
  refine (rndFact_any _).mono ?_
  rintro e w1 ⟨rfl, hb⟩
  have HB1 := Lib.hid hb
  clear hb
  go_wp2_with fail
  refine (rndRun_ok _ _ _ _ rs _ (HA.out.below HB1.out) (HR.out.below HB1.out) rfl HB1.out.size HOK.out).mono ?_
  rintro e w2 ⟨va, vb, rfl, hs, hb⟩
  obtain ⟨a1, c1, rfl, hc1, -⟩ := hs.intsShape (A := [_]) (C := [])
  have HC1 := Lib.hid hc1
  clear hc1
  have HX2 := Lib.hid (hs.intSl (A := [_]) (C := []))
  have HB2 := Lib.hid (HB1.out.trans (hb.mono HB1.out.size))
  clear hs hb
  go_wp2_with fail
  refine (rndBits_ok _ _ _ _ rs _ (HA.out.below HB2.out) (HR.out.below HB2.out) rfl HB2.out.size HOK.out).mono ?_
  rintro e w3 ⟨vd, rfl, hs, hb⟩
  obtain ⟨a2, c2, rfl, -, -⟩ := hs.intsShape (A := []) (C := [])
  have HY3 := Lib.hid (hs.intSl (A := []) (C := []))
  have HX3 := Lib.hid (HX2.out.below hb)
  have HB3 := Lib.hid (HB2.out.trans (hb.mono HB2.out.size))
  have hz23 := hb.size
  clear hs hb HX2
  go_wp2_with fail
  refine (in3_yes _ _ _ _ ha1 ha2).mono ?_
  rintro e w' ⟨rfl, rfl⟩
  go_wp2_with fail
  refine (in3_yes _ _ _ _ hm1I hm2I).mono ?_
  rintro e w' ⟨rfl, rfl⟩
  have hg3 : w.heap.size ≤ w3.heap.size := HB3.out.size
  have HA3 := Lib.hid (HA.out.below HB3.out)
  obtain ⟨b0, o0, he0, -, hcq⟩ := rows_at HA3.out HRA.out
  subst he0
  have HNIL := Lib.hid ((Sep.nil w3.heap.size w3).rowNil 1 24)
  have hflat : ∀ (j : Nat) (u : Value), (rs.map stpV)[j]? = some u → w3.cell? ((⟨b0, o0, none⟩ : Addr).add j) = some u := by
    intro j u hu
    rw [List.getElem?_map] at hu
    obtain ⟨r, hr, rfl⟩ := Option.map_eq_some_iff.1 hu
    obtain ⟨b1, o1, he, -, hc⟩ := rows_at HA3.out hr
    simp only [Option.some.injEq, Addr.mk.injEq, and_true] at he
    obtain ⟨rfl, rfl⟩ := he
    rw [show (⟨b0, o0, none⟩ : Addr).add j = ⟨b0, o0 + j, none⟩ by unfold Addr.add; split <;> simp_all]
    exact hc
  have HFL := Lib.hid hflat
  have hone : ∀ u ∈ rs.map stpV, u.oneCell' = true := fun u hu => by obtain ⟨r, _, rfl⟩ := List.mem_map.1 hu; rfl
  have HONE := Lib.hid hone
  have hbytes : (0 + rs.length) * 24 ≤ 140737488355328 := by omega
  have hmaxl : 0 + rs.length ≤ maxLen := by unfold maxLen; omega
  have hlen0 : 0 < rs.length := by omega
  have HBY := Lib.hid (And.intro hbytes hmaxl)
  clear hflat hone hbytes hmaxl
  go_wp2_with (at_builtin; refine wpList_append_sep (B := w3.heap.size) (w := w3) (v := .slice none 0 0) (n := 0) (size := 1) (bytes := 24) (xs := []) (z := .slice none 0 0) (A := []) (C := []) ?_ (.tmp 55) (.tmp 56) ?_ elemS ?_ HNIL.out (Nat.le_refl _) ⟨b0, o0, none⟩ rs.length ac (rs.map stpV) ?_ (by simp) HFL.out HONE.out hlen0 HBY.out.1 HBY.out.2 ?_; rfl; rfl; rfl; rfl)
  intro vn w4 h1 h2
  obtain ⟨-, an, cn, rfl, -, -⟩ := h1.rowShape (A := [])
  obtain ⟨gn, on, rfl, hgn, hcn, hfn⟩ := h1.rowAt (A := []) hlen0
  have HS4 := Lib.hid h1
  have HB4 := Lib.hid (HB3.out.trans (h2.mono hg3))
  have HB34 := Lib.hid h2
  have hgnl := (h1.mem (A := [])).2 gn rfl
  have hcq4 : w4.cell? ⟨b0, o0 + a, none⟩ = some (.slice ra q.length rc) := by
    obtain ⟨b1, o1, he, hbb, hc⟩ := rows_at (HA.out.below HB4.out) HRA.out
    simp only [Option.some.injEq, Addr.mk.injEq, and_true] at he
    obtain ⟨rfl, rfl⟩ := he
    exact hc
  clear h1 h2 hcn hcq HNIL HFL HONE HBY
  have HBH := Lib.hid (behind_any ra q.length rc _ q m w4 (HIQ.out.below HB4.out) rfl HB4.out.size (by omega))
  have haI : (a : Int) < (rs.length : Int) := by omega
  go_wp2_with fail
  refine HBH.out.mono ?_
  rintro e w5 ⟨vh, rfl, hs, hb⟩
  obtain ⟨ah, ch, rfl, hlc, -⟩ := hs.intsShape (A := []) (C := [])
  have hj := Sep.join HS4.out (by have := HB34.out.size; exact this) hb hs
  have HS5 := Lib.hid hj
  have HB5 := Lib.hid (HB4.out.trans (hb.mono HB4.out.size))
  have HB35 := Lib.hid (HB34.out.trans (hb.mono HB34.out.size))
  clear hs hb HBH
  have hset := Sep.rowSet (A := [_]) HS5.out a (.slice ah (q ++ [(m : Int)]).length ch)
  have hfz : w5.frozen? ⟨gn, on + a, none⟩ = false := by
    obtain ⟨g', o', he, -, -, hf⟩ := Sep.rowAt (A := [_]) HS5.out hlen0
    simp only [Option.some.injEq, Addr.mk.injEq, and_true] at he
    obtain ⟨rfl, rfl⟩ := he
    exact hf _
  have hcell : w5.cell? ⟨gn, on + a, none⟩ = some (.slice ra q.length rc) := by
    obtain ⟨g', o', he, -, hc, -⟩ := Sep.rowAt (A := [_]) HS5.out hlen0
    simp only [Option.some.injEq, Addr.mk.injEq, and_true] at he
    obtain ⟨rfl, rfl⟩ := he
    rw [hc a (by omega), List.getElem?_map, HRA.out]; rfl
  obtain ⟨rs2, hrs2⟩ : ∃ rs2 : List Stp, rs2 = rs.set a (ah, ch, q ++ [(m : Int)]) := ⟨_, rfl⟩
  have hmap : (rs.map stpV).set a (.slice ah (q ++ [(m : Int)]).length ch) = rs2.map stpV := by rw [hrs2, List.map_set]; rfl
  rw [hmap] at hset
  have hgn2 : g ≤ gn := Nat.le_trans hgw (Nat.le_trans hg3 hgnl.1)
  have HB6 := Lib.hid (HB5.out.setCell (p := ⟨gn, on + a, none⟩) (Nat.le_trans hg3 hgnl.1) (.slice ah (q ++ [(m : Int)]).length ch))
  have HS6 := Lib.hid hset
  obtain ⟨w6, hw6⟩ : ∃ w6, w6 = w5.setCell ⟨gn, on + a, none⟩ (.slice ah (q ++ [(m : Int)]).length ch) := ⟨_, rfl⟩
  rw [← hw6] at HB6 HS6
  have HW6 := Lib.hid hw6
  have HV6 : Hid (Value.slice ah (q.length + 1) ch = .slice ah (q ++ [(m : Int)]).length ch) := Lib.hid (by simp)
  have hrl2 : rs2.length = rs.length := by rw [hrs2, List.length_set]
  have HRL2 := Lib.hid hrl2
  have hro2 : rowsOf rs2 = (rowsOf rs).set a (q ++ [(m : Int)]) := by rw [hrs2]; unfold rowsOf; rw [List.map_set]
  have HRO2 := Lib.hid hro2
  have HRS2 := Lib.hid hrs2
  have hcap := Sep.rowCap (A := []) (C := [_]) HS6.out
  have hra6 : RowSl w6.heap.size w6 (some ⟨gn, on, none⟩) 1 (rs2.map stpC) := Sep.rowRows (A := [_]) HS6.out hrl2
  have hsk6 : StpsOk w6.heap.size w6 rs2 := by
    intro r hr
    rw [hrs2] at hr
    rcases List.mem_or_eq_of_mem_set hr with hr | rfl
    · have h1 := HR.out r hr
      exact ⟨(h1.1.below HB6.out).mono HB6.out.size, h1.2⟩
    · exact ⟨HS6.out.intSl (A := []) (C := [_]), hcap⟩
  have HRA6 := Lib.hid hra6
  have HSK6 := Lib.hid hsk6
  have hcq6 : w6.cell? ⟨b0, o0 + a, none⟩ = some (.slice ra q.length rc) := by
    obtain ⟨b1, o1, he, hbb, hc⟩ := rows_at (HA.out.below HB6.out) HRA.out
    simp only [Option.some.injEq, Addr.mk.injEq, and_true] at he
    obtain ⟨rfl, rfl⟩ := he
    exact hc
  have HB36 : Hid (Below w3.heap.size w3 w6) := Lib.hid (by rw [HW6.out]; exact HB35.out.setCell (p := ⟨gn, on + a, none⟩) hgnl.1 _)
  have HX6 := Lib.hid (HX3.out.below (HB36.out.mono hz23))
  have HY6 := Lib.hid (HY3.out.below HB36.out)
  have hz36 := HB36.out.size
  clear hset hmap hrs2 hw6 hrl2 hro2 hra6 hsk6 hcap HX3 HY3 HB34 HB35 HB36 HS5 hfn HS4 HB4
  obtain ⟨S, hS⟩ : ∃ S, S = rnd (nsOf (rowsOf rs)) := ⟨_, rfl⟩
  obtain ⟨O, hO⟩ : ∃ O, O = ordOf S := ⟨_, rfl⟩
  obtain ⟨D, hD⟩ : ∃ D, D = bitsOf (nsOf (rowsOf rs)) S := ⟨_, rfl⟩
  rw [← hS] at HX6 HY6
  rw [← hO] at HX6
  rw [← hD] at HY6
  have hl40 : S.length ≤ 40 := by rw [hS]; exact rnd_len40 HOK.out
  obtain ⟨n, hn⟩ : ∃ n, n = S.length := ⟨_, rfl⟩
  have hOl : O.length = n := by rw [hO, ordOf_len, hn]
  have hDl : D.length = n := by rw [hD, bitsOf_len, hn]
  rw [← hn] at hl40
  rw [← hS, ← hO, ← hD, hOl, hDl]
  rw [← hS, ← hO, hOl] at HC1
  have HL := Lib.hid (And.intro hOl hDl)
  have HSD := Lib.hid (And.intro hS (And.intro hO (And.intro hD hn)))
  clear hS hO hD hn hOl hDl
  by_cases h8 : q.length = 8
  · have hno : ¬ QsOk (rowsOf rs2) := fun h => by
      rw [HRO2.out] at h
      have h1 := (h.all (q ++ [(m : Int)]) (List.mem_iff_getElem?.2 ⟨a, by rw [List.getElem?_set_self (by rw [rowsOf_len]; exact ha)]⟩)).1
      rw [List.length_append, List.length_singleton] at h1; omega
    obtain ⟨c, hc⟩ : ∃ c, c = checkCode (rowsOf rs2) := ⟨_, rfl⟩
    have hc0 : ¬ c = 0 := fun h => hno (checkCode_zero.1 (hc.symm.trans h))
    have HCC := Lib.hid hc
    have HC0 := Lib.hid hc0
    have he8 : ((q.length : Int) == 8) = true := by simp; omega
    have HQ8 := Lib.hid h8
    clear hc hc0 hno h8
    go_wp2_with fail
    rw [HV6.out, ← HW6.out]
    refine (rndRun_err _ _ _ _ rs2 c _ HRA6.out HSK6.out HRL2.out.symm (by rw [HRL2.out]; omega) HCC.out HC0.out).mono ?_
    rintro e w' ⟨rfl, rfl⟩
    rw [errV_not HC0.out]
    go_wp2_with fail
    refine (rndBits_err _ _ _ _ rs2 c _ HRA6.out HSK6.out HRL2.out.symm (by rw [HRL2.out]; omega) HCC.out HC0.out).mono ?_
    rintro e w' ⟨rfl, rfl⟩
    rw [errV_not HC0.out]
    go_wp2
    go_ret
    exact ⟨rfl, HB6.out⟩
  · have hok2 : QsOk (rowsOf rs2) := by
      rw [HRO2.out]
      refine ⟨by rw [List.length_set]; exact HOK.out.few, fun l hl => ?_⟩
      rcases List.mem_or_eq_of_mem_set hl with hl | hl
      · exact HOK.out.all l hl
      · rw [hl, List.length_append, List.length_singleton]
        refine ⟨by omega, fun x hx => ?_⟩
        rcases List.mem_append.1 hx with hx | hx
        · exact (HOK.out.all q (List.mem_iff_getElem?.2 ⟨a, HRQ.out⟩)).2 x hx
        · rw [List.mem_singleton.1 hx]; omega
    have hns2 : nsOf (rowsOf rs2) = more (nsOf (rowsOf rs)) a m := by rw [HRO2.out, more_nsOf HRQ.out, Int.toNat_natCast]
    have hal : a < (nsOf (rowsOf rs)).length := by rw [nsOf_len, rowsOf_len]; exact ha
    have hap := apart_ok (nsOf_pos HOK.out) hal hm1
    obtain ⟨S2, hS2⟩ : ∃ S2, S2 = rnd (nsOf (rowsOf rs2)) := ⟨_, rfl⟩
    obtain ⟨O2, hO2⟩ : ∃ O2, O2 = ordOf S2 := ⟨_, rfl⟩
    obtain ⟨D2, hD2⟩ : ∃ D2, D2 = bitsOf (nsOf (rowsOf rs2)) S2 := ⟨_, rfl⟩
    rw [← hns2, ← hS2, ← hO2, ← hD2, ← HSD.out.1, ← HSD.out.2.1, ← HSD.out.2.2.1] at hap
    have hn2 : S2.length = n + 1 := by
      rw [hS2, rnd_len, hns2, lens_more hal, ← rnd_len, ← HSD.out.1, HSD.out.2.2.2]
    obtain ⟨n2, hnn⟩ : ∃ n2, n2 = n + 1 := ⟨_, rfl⟩
    rw [← hnn] at hn2
    have hOl2 : O2.length = n2 := by rw [hO2, ordOf_len, hn2]
    have hDl2 : D2.length = n2 := by rw [hD2, bitsOf_len, hn2]
    have hn2l : n2 ≤ 41 := by omega
    have hne3 : ((n2 : Int) != (n : Int) + 1) = false := by simp; omega
    have HNN := Lib.hid hnn
    have HRUN2 := rndRun_ok _ rs.length cn _ rs2 w6 HRA6.out HSK6.out HRL2.out.symm (Nat.le_refl _) hok2
    have HBIT2 : Hid (∀ w1, Below w6.heap.size w6 w1 → Calls Try.prog 8 #[.slice (some ⟨gn, on, none⟩) rs.length cn] w1 fun e w' => ∃ va, e = .returned (.tuple #[va, .nilIface]) ∧ Sep w1.heap.size w' [Ent.ints 3 va D2] ∧ Below w1.heap.size w1 w') := Lib.hid (fun w1 hb => by
      have := rndBits_ok _ rs.length cn _ rs2 w1 (HRA6.out.below hb) (HSK6.out.below hb) HRL2.out.symm hb.size hok2
      rw [← hS2, ← hD2] at this; exact this)
    rw [← hS2, ← hO2] at HRUN2
    have HRUN2 := Lib.hid HRUN2
    have HAP := Lib.hid hap
    have HL2 := Lib.hid (And.intro hOl2 hDl2)
    clear hok2 hns2 hal hap hS2 hO2 hD2 hn2 hOl2 hDl2 h8 hnn
    have hne1 : ((n : Int) != (n : Int)) = false := by simp
    have hne2 : ((n2 : Int) != (n2 : Int)) = false := by simp
    go_wp2_with fail
    rw [HV6.out, ← HW6.out]
    refine HRUN2.out.mono ?_
    rintro e w7 ⟨va7, vb7, rfl, hs, hb⟩
    obtain ⟨a7, c7, rfl, hc7, -⟩ := hs.intsShape (A := [_]) (C := [])
    have HX7 := Lib.hid (hs.intSl (A := [_]) (C := []))
    have HB67 := Lib.hid hb
    have hz7 := hb.size
    rw [HL2.out.1] at hc7 ⊢
    clear hs hb HRUN2
    go_wp2_with fail
    refine (HBIT2.out _ HB67.out).mono ?_
    rintro e w8 ⟨va8, rfl, hs, hb⟩
    obtain ⟨a8, c8, rfl, -, -⟩ := hs.intsShape (A := []) (C := [])
    have HY8 := Lib.hid (hs.intSl (A := []) (C := []))
    have HB68 := Lib.hid (HB67.out.trans (hb.mono hz7))
    have HX8 := Lib.hid (HX7.out.below hb)
    rw [HL2.out.2]
    clear hs hb HBIT2 HX7 HB67
    have HO8 := Lib.hid (HX6.out.below (HB68.out.mono (Nat.le_trans hz23 hz36)))
    have HD8 := Lib.hid (HY6.out.below (HB68.out.mono hz36))
    have HB8 := Lib.hid (HB6.out.trans (HB68.out.mono HB6.out.size))
    clear HX6 HY6 HB68 hcq6
    go_wp2
    clear hne1 hne2 hne3
    go_loopg [19, 20, 21] n (fun gk i c20 k21 wr => ∃ (j q : Nat), gk + j = n ∧ i = .int .i64 j ∧ wr = w8.drewN q)
    case atStart => exact ⟨0, 0, by omega, rfl, rfl⟩
    case round =>
      obtain ⟨gi, hgi0⟩ : ∃ gi, gi = gk := ⟨_, rfl⟩
      obtain ⟨j, qd, hgk, rfl, hwr⟩ := hrel
      subst hwr
      by_cases hlt : j < n
      · obtain ⟨c, hc⟩ : ∃ c, O[j]? = some c := ⟨_, List.getElem?_eq_getElem (by rw [HL.out.1]; exact hlt)⟩
        obtain ⟨g1, o1, rfl, hg1, cc⟩ := HO8.out j c hc
        have HC := Lib.hid hc
        have HGK := Lib.hid hgk
        have hjI : (j : Int) < (n : Int) := by omega
        have hj0 : (0 : Int) ≤ (j : Int) := by omega
        have hjc : (j : Int) ≤ (c1 : Int) := by
          have := HC1.out; omega
        clear hc hgk hgi0
        by_cases hca : c = (a : Int)
        · have he : (c == (a : Int)) = true := by simp [hca]
          clear hca
          go_wp2
          go_roundg (n - (j + 1))
          case measure => have := HGK.out; omega
          case rel => exact ⟨j + 1, _, by omega, by go_num, rfl⟩
        · have he : (c == (a : Int)) = false := by simp [hca]
          obtain ⟨k0, hk0, hkc, hkn⟩ := HAP.out.find j c HC.out hca
          obtain ⟨cn, hcn⟩ : ∃ cn, cn = (O.take j).count c := ⟨_, rfl⟩
          have hlt1 : (O.take j).length = j := by rw [List.length_take, HL.out.1]; omega
          have HCA : Hid (∀ x, Calls Try.prog 12 #[.slice (some ⟨g1, o1, none⟩) j c1, .int .i64 c] (w8.drewN x) fun e w' => e = .returned (.int .i64 cn) ∧ w8.drewN x = w') := Lib.hid (fun x => by
            have := count_any (some ⟨g1, o1, none⟩) j c1 _ (O.take j) c (w8.drewN x) ((HO8.out.below (below_drewN _ _ x)).take) hlt1.symm (by omega)
            rw [← hcn] at this; exact this)
          have hcnl : cn ≤ 1000 := by rw [hcn]; have := List.count_le_length (a := c) (l := O.take j); omega
          have HCN := Lib.hid hcn
          have HCA' := Lib.hid hca
          rw [HL2.out.1] at hk0
          rw [← hcn] at hkn
          have HKC := Lib.hid (And.intro hkc hkn)
          clear hca hkc hkn hcn hlt1
          go_upto_region 21 with fail
          go_quiet (first | (go_at_call 12; exact quiet_id (HCA.out _) ⟨_, rfl⟩))
          go_wp2
          clear he
          go_loopg [21] k0 (fun gk k wx => ∃ (k' x : Nat), gk + k' = k0 ∧ k = .int .i64 k' ∧ wx = w8.drewN x)
          case atStart =>
            obtain ⟨xk, hxk⟩ := drewN_two w8 qd nq
            exact ⟨0, xk, by omega, rfl, hxk⟩
          case round =>
            obtain ⟨gj, hgj0⟩ : ∃ gj, gj = gk := ⟨_, rfl⟩
            obtain ⟨k, xd, hgk, rfl, hwr⟩ := hrel
            subst hwr
            obtain ⟨d, hd⟩ : ∃ d, O2[k]? = some d := ⟨_, List.getElem?_eq_getElem (by rw [HL2.out.1]; omega)⟩
            obtain ⟨g7, o7, rfl, hg7, cd⟩ := HX8.out k d hd
            have HD7 := Lib.hid hd
            have HGJ := Lib.hid hgk
            have hkI : (k : Int) < (n2 : Int) := by omega
            have hk0' : (0 : Int) ≤ (k : Int) := by omega
            have hkc7 : (k : Int) ≤ (c7 : Int) := by omega
            have hkd : decide ((k : Int) < (n2 : Int)) = true := decide_eq_true hkI
            clear hd hgk hgj0
            by_cases hdc : d = c
            · have hne : (d != c) = false := by simp [hdc]
              obtain ⟨cm, hcm⟩ : ∃ cm, cm = (O2.take k).count c := ⟨_, rfl⟩
              have hlt2 : (O2.take k).length = k := by rw [List.length_take, HL2.out.1]; omega
              have HCB : Hid (∀ x, Calls Try.prog 12 #[.slice (some ⟨g7, o7, none⟩) k c7, .int .i64 c] (w8.drewN x) fun e w' => e = .returned (.int .i64 cm) ∧ w8.drewN x = w') := Lib.hid (fun x => by
                have := count_any (some ⟨g7, o7, none⟩) k c7 _ (O2.take k) c (w8.drewN x) ((HX8.out.below (below_drewN _ _ x)).take) hlt2.symm (by omega)
                rw [← hcm] at this; exact this)
              have hcml : cm ≤ 1000 := by rw [hcm]; have := List.count_le_length (a := c) (l := O2.take k); omega
              have HCM := Lib.hid hcm
              have HDC := Lib.hid hdc
              clear hcm hlt2 hdc
              by_cases hcc : cm = cn
              · have hne2 : ((cm : Int) != (cn : Int)) = false := by simp [hcc]
                obtain ⟨x, y, hx, hy, hxy, hyx, hx0⟩ := HAP.out.bits j k c HC.out HCA'.out (by rw [HD7.out, HDC.out]) (by rw [← HCM.out, hcc, HCN.out])
                obtain ⟨g2, o2, rfl, -, cx⟩ := HD8.out j x hx
                obtain ⟨g8, o8, rfl, -, cy⟩ := HY8.out k y hy
                have hd1 : ((k : Int) == (n2 : Int)) = false := by simp; omega
                have hd2 : decide (y < x) = false := decide_eq_false (by omega)
                obtain ⟨z, hz⟩ : ∃ z : Nat, y - x = (z : Int) := ⟨(y - x).toNat, by omega⟩
                have hzw : IntKind.i64.wrap (z : Int) = (z : Int) := by simp [IntKind.wrap, IntKind.bits, IntKind.signed]; omega
                have hd3 : decide ((m : Int) < (z : Int)) = false := decide_eq_false (by omega)
                have hd3N : decide (m < z) = false := decide_eq_false (by omega)
                clear hx hy hxy hyx hx0 hcc hm1 hm2
                go_upto_region 23 with fail
                go_quiet (first | (go_at_call 12; exact quiet_id (HCB.out _) ⟨_, rfl⟩))
                go_upto_region 25 with fail
                go_quiet (fail)
                go_wp2
                go_roundg (n - (j + 1))
                case measure => have := HGK.out; omega
                case rel => exact ⟨j + 1, _, by omega, by go_num, rfl⟩
              · have hne2 : ((cm : Int) != (cn : Int)) = true := by simp; omega
                have hkk : k < k0 := by
                  have h1 := HGJ.out
                  rcases Nat.lt_or_ge k k0 with h | h
                  · exact h
                  · have : k = k0 := by omega
                    rw [this] at HCM
                    exact absurd (HCM.out.trans HKC.out.2) hcc
                clear hcc
                go_upto_region 23 with fail
                go_quiet (first | (go_at_call 12; exact quiet_id (HCB.out _) ⟨_, rfl⟩))
                go_wp2
                go_roundg (k0 - (k + 1))
                case measure => have := HGJ.out; omega
                case rel => exact ⟨k + 1, _, by omega, by go_num, rfl⟩
            · have hne : (d != c) = true := by simp [hdc]
              have hkk : k < k0 := by
                have h1 := HGJ.out
                rcases Nat.lt_or_ge k k0 with h | h
                · exact h
                · have hk : k = k0 := by omega
                  have h2 := HD7.out
                  rw [hk, HKC.out.1] at h2
                  exact absurd (Option.some.inj h2).symm hdc
              clear hdc
              go_upto_region 23 with fail
              go_quiet (fail)
              go_wp2
              go_roundg (k0 - (k + 1))
              case measure => have := HGJ.out; omega
              case rel => exact ⟨k + 1, _, by omega, by go_num, rfl⟩
      · clear hgk hgi0
        go_wp2
        go_ret
        exact ⟨rfl, HB8.out.trans (below_drewN _ _ _)⟩
theorem roundsApart_walk (ao : Option Addr) (ac : Nat) (rs : List Stp) (a more : Int) (w : World) (hA : RowSl w.heap.size w ao 1 (rs.map stpC)) (hac : rs.length ≤ ac) (hmax : ac ≤ maxLen) (hr : StpsOk w.heap.size w rs)
    (_ : -9223372036854775808 ≤ a ∧ a ≤ 9223372036854775807) (_ : -9223372036854775808 ≤ more ∧ more ≤ 9223372036854775807) :
    Calls Try.prog 4 #[.slice ao rs.length ac, .int .i64 a, .int .i64 more] w fun e w' => e = .returned (.bool true) ∧ Below w.heap.size w w' := by
  unfold maxLen at hmax
  by_cases hc : checkCode (rowsOf rs) = 0
  · have hok := checkCode_zero.1 hc
    by_cases hn : 0 ≤ a ∧ a ≤ (rs.length : Int) - 1 ∧ 1 ≤ more ∧ more ≤ 20
    · obtain ⟨h1, h2, h3, h4⟩ := hn
      obtain ⟨a, rfl⟩ := Int.eq_ofNat_of_zero_le h1
      obtain ⟨m, rfl⟩ := Int.eq_ofNat_of_zero_le (by omega : 0 ≤ more)
      exact apart_in ao ac rs a m w hA hac hr hok (by omega) (by omega) (by omega)
    · exact apart_out ao ac rs a more w hA hr hok hn
  · exact apart_err ao ac rs a more _ w hA hr (by omega) rfl hc
end Go.Proofs.Ytpfpaheafpibiaa
