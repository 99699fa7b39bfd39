/- DrrSoon returns true: where the quantum is enough for anything all are served in the first turn. -/
import Derived.Test.YtommedhaaojgiaaDrrFact
import Derived.Test.YtommedhaaojgiaaDrrLaw
import Derived.Test.YtommedhaaojgiaaIn3
namespace Go.Proofs.Ytommedhaaojgiaa
open Go.RowKit
set_option linter.unusedVariables false

set_option maxHeartbeats 2000000 in
set_option maxRecDepth 100000 in
theorem drrSoon_walk (ao : Option Addr) (ac : Nat) (rs : List Stp) (Q i : Int) (w : World) (hA : RowSl w.heap.size w ao 1 (rs.map stpC)) (hac : rs.length ≤ ac) (hmax : ac ≤ maxLen) (hr : StpsOk w.heap.size w rs)
    (_ : -9223372036854775808 ≤ Q ∧ Q ≤ 9223372036854775807) (_ : -9223372036854775808 ≤ i ∧ i ≤ 9223372036854775807) :
    Calls Try.prog 8 #[.slice ao rs.length ac, .int .i64 Q, .int .i64 i] w fun e w' => e = .returned (.bool true) ∧ Below w.heap.size w w' := by
  unfold maxLen at hmax
  have HA := Lib.hid hA; clear hA
  have HR := Lib.hid hr; clear hr
  obtain ⟨c, hc⟩ : ∃ c, c = runCode (rowsOf rs) Q := ⟨_, rfl⟩
  by_cases hc0 : c = 0
  · obtain ⟨hok, hq1, hq2⟩ := runCode_zero.1 (hc.symm.trans hc0)
    clear hc hc0
    obtain ⟨Q, rfl⟩ := Int.eq_ofNat_of_zero_le (by omega : 0 ≤ Q)
    have hn5 : rs.length ≤ 5 := by rw [← rowsOf_len]; exact hok.few
    obtain ⟨l, hl⟩ : ∃ l, l = drrOut (rowsOf rs) Q := ⟨_, rfl⟩
    have htot : l.length = drrTot (rowsOf rs) := by rw [hl]; exact drr_total hok (by omega)
    have hll : l.length ≤ 40 := by rw [htot]; exact drrTot_le hok
    clear htot
    have HL := Lib.hid hl; clear hl
    have HOK := Lib.hid hok; clear hok
    go_enter Try.func8, Try.ntmps8
    go_wp2_with fail
    refine (drrFact_any _).mono ?_
    rintro e w1 ⟨rfl, hb⟩
    have HB := Lib.hid hb; clear hb
    go_wp2_with fail
    refine (drrRun_ok _ _ _ _ rs Q _ (HA.out.below HB.out) (HR.out.below HB.out) rfl HB.out.size HOK.out ⟨hq1, hq2⟩).mono ?_
    rintro e w2 ⟨va, rfl, hs, hb⟩
    rw [Int.toNat_natCast, ← HL.out] at hs
    have HB2 := Lib.hid (HB.out.trans (hb.mono HB.out.size)); clear hb
    obtain ⟨ao1, c1, rfl, hc1, _⟩ := hs.intsShape (A := []) (C := [])
    have hX := hs.intSl (A := []) (C := [])
    have HX := Lib.hid hX
    clear hX hs
    have HA2 := Lib.hid (HA.out.below HB2.out)
    have HR2 := Lib.hid (HR.out.below HB2.out)
    by_cases hin : 0 ≤ i ∧ i ≤ (rs.length : Int) - 1
    · obtain ⟨hin1, hin2⟩ := hin
      obtain ⟨i, rfl⟩ := Int.eq_ofNat_of_zero_le hin1
      have hi : i < rs.length := by omega
      obtain ⟨⟨rai, rci, xi⟩, hrki⟩ : ∃ r, rs[i]? = some r := ⟨_, List.getElem?_eq_getElem hi⟩
      obtain ⟨b, off, rfl, hbb, ci⟩ := rows_at HA2.out hrki
      have hgi : (rowsOf rs).getD i [] = xi := by rw [List.getD_eq_getElem?_getD, rowsOf_get hrki]; rfl
      have hxi8 := (HOK.out.at i).1
      rw [hgi] at hxi8
      have HGI := Lib.hid hgi; clear hgi hrki
      simp only at ci
      go_wp2_with (go_at_call 17; refine (in3_yes _ _ _ _ (by omega) (by omega)).mono ?_; rintro e w' ⟨rfl, rfl⟩)
      go_loop [10] (fun x => ∃ k : Nat, k ≤ rs.length ∧ x = .int .i64 k ∧ Hid (∀ j, j < k → ∀ x ∈ (rowsOf rs).getD j [], x ≤ (Q : Int))) (fun x => rs.length - (intOf x).toNat)
      case atStart => exact ⟨0, Nat.zero_le _, rfl, fun j hj => by omega⟩
      case round =>
        obtain ⟨k, hk, rfl, hall⟩ := hrel
        by_cases hlt : k < rs.length
        · obtain ⟨⟨ra, rc, xs⟩, hrk⟩ : ∃ r, rs[k]? = some r := ⟨_, List.getElem?_eq_getElem hlt⟩
          obtain ⟨b', off', he, _, c0⟩ := rows_at HA2.out hrk
          simp only [Option.some.injEq, Addr.mk.injEq, and_true] at he
          obtain ⟨rfl, rfl⟩ := he
          have hg : (rowsOf rs).getD k [] = xs := by rw [List.getD_eq_getElem?_getD, rowsOf_get hrk]; rfl
          have hx8 := (HOK.out.at k).1
          rw [hg] at hx8
          have hix := (HR2.out _ (List.mem_iff_getElem?.2 ⟨k, hrk⟩)).1
          simp only at c0 hix
          have HG := Lib.hid hg; clear hg hrk
          have HIX := Lib.hid hix; clear hix
          go_wp2
          go_loop [11] (fun x => ∃ s : Nat, s ≤ xs.length ∧ x = .int .i64 s ∧ Hid (∀ y ∈ xs.take s, y ≤ (Q : Int))) (fun x => xs.length - (intOf x).toNat)
          case atStart => exact ⟨0, Nat.zero_le _, rfl, fun y hy => by simp at hy⟩
          case round =>
            obtain ⟨s, hs, rfl, hle⟩ := hrel
            by_cases hsl : s < xs.length
            · obtain ⟨y, hy⟩ : ∃ y, xs[s]? = some y := ⟨_, List.getElem?_eq_getElem hsl⟩
              obtain ⟨b2, o2, rfl, _, cy⟩ := HIX.out s y hy
              have HY := Lib.hid hy; clear hy
              by_cases hyq : (Q : Int) < y
              · go_wp2
                go_ret
                exact ⟨rfl, HB2.out⟩
              · go_wp2
                go_round
                case rel =>
                  refine ⟨s + 1, by omega, by go_num, ?_⟩
                  intro z hz
                  rw [List.take_add_one, HY.out] at hz
                  simp at hz
                  rcases hz with hz | rfl
                  · exact hle.out z hz
                  · omega
                case measure => simp [intOf]; omega
            · go_wp2
              go_round
              case rel =>
                refine ⟨k + 1, by omega, by go_num, ?_⟩
                intro j hj
                rcases Nat.lt_or_ge j k with h1 | h1
                · exact hall.out j h1
                · rw [show j = k by omega, HG.out]
                  have h2 := hle.out
                  rwa [List.take_of_length_le (by omega)] at h2
              case measure => simp [intOf]; omega
        · have hle : ∀ q ∈ rowsOf rs, ∀ x ∈ q, x ≤ (Q : Int) := by
            intro q hq x hx
            obtain ⟨j, hj⟩ := List.mem_iff_getElem?.1 hq
            have hjl := (List.getElem?_eq_some_iff.1 hj).1
            rw [rowsOf_len] at hjl
            exact hall.out j (by omega) x (by rw [List.getD_eq_getElem?_getD, hj]; exact hx)
          have HLE := Lib.hid hle; clear hle hall
          by_cases hz : xi.length = 0
          · have hz1 : ((xi.length : Int) == 0) = true := by simp [hz]
            have hcz : l.count (i : Int) = 0 := by rw [HL.out, drr_once HOK.out (by omega) (by rw [rowsOf_len]; exact hi), HGI.out, hz]
            have hcall := count_any ao1 l.length c1 _ l (i : Int) _ HX.out rfl (by omega)
            rw [hcz] at hcall
            have HCA := Lib.hid hcall; clear hcall hcz
            have HZ := Lib.hid hz; clear hz
            go_wp2_with fail
            refine HCA.out.mono ?_
            rintro e w' ⟨rfl, rfl⟩
            go_wp2
            go_ret
            exact ⟨rfl, HB2.out⟩
          · have hz1 : ((xi.length : Int) == 0) = false := by simp; intro h; simp [h] at hz
            obtain ⟨A, a1, a2, a3, a4⟩ := drr_soon HOK.out (Q := Q) (i := i) (by omega) (by rw [rowsOf_len]; exact hi) HLE.out (by rw [HGI.out]; omega)
            rw [← HL.out] at a1 a2 a3 a4
            obtain ⟨bl, ol, rfl, _, cA⟩ := HX.out A i a2
            have A2 := Lib.hid a2; clear a2
            have A3 := Lib.hid a3; clear a3
            have A4 := Lib.hid a4; clear a4
            have HZ := Lib.hid hz; clear hz
            go_wp2
            go_loop [12] (fun x => ∃ p : Nat, p ≤ A ∧ x = .int .i64 p) (fun x => A - (intOf x).toNat)
            case atStart => exact ⟨0, Nat.zero_le _, rfl⟩
            case round =>
              obtain ⟨p, hp, rfl⟩ := hrel
              have hpl : decide ((p : Int) < (l.length : Int)) = true := decide_eq_true (by omega)
              by_cases hpA : p < A
              · obtain ⟨z, hz2⟩ : ∃ z, l[p]? = some z := ⟨_, List.getElem?_eq_getElem (by omega)⟩
                obtain ⟨bl', ol', he, _, cz⟩ := HX.out p z hz2
                simp only [Option.some.injEq, Addr.mk.injEq, and_true] at he
                obtain ⟨rfl, rfl⟩ := he
                have hzi : ¬ z = (i : Int) := fun e => A3.out (List.mem_iff_getElem?.2 ⟨p, by rw [List.getElem?_take, if_pos hpA, hz2, e]⟩)
                have hzn : (z != (i : Int)) = true := by simp [hzi]
                have HZI := Lib.hid hzi; clear hzi hz2
                go_wp2
                go_round
                case rel => exact ⟨p + 1, by omega, by go_num⟩
                case measure => simp [intOf]; omega
              · obtain rfl : p = A := by omega
                have hii : ((i : Int) != (i : Int)) = false := by simp
                have hTk := HX.out.take (k := p)
                have HTK := Lib.hid hTk; clear hTk
                have hpc : p ≤ c1 := by omega
                go_wp2
                go_loop [13] (fun x => ∃ k : Nat, k ≤ rs.length ∧ x = .int .i64 k) (fun x => rs.length - (intOf x).toNat)
                case atStart => exact ⟨0, Nat.zero_le _, rfl⟩
                case round =>
                  obtain ⟨k, hk, rfl⟩ := hrel
                  by_cases hlt : k < rs.length
                  · obtain ⟨⟨ra, rc, xs⟩, hrk⟩ : ∃ r, rs[k]? = some r := ⟨_, List.getElem?_eq_getElem hlt⟩
                    obtain ⟨b', off', he, _, c0⟩ := rows_at HA2.out hrk
                    simp only [Option.some.injEq, Addr.mk.injEq, and_true] at he
                    obtain ⟨rfl, rfl⟩ := he
                    have hg : (rowsOf rs).getD k [] = xs := by rw [List.getD_eq_getElem?_getD, rowsOf_get hrk]; rfl
                    have hx8 := (HOK.out.at k)
                    obtain ⟨hix, hrl, hrm⟩ := HR2.out _ (List.mem_iff_getElem?.2 ⟨k, hrk⟩)
                    obtain ⟨k1, k2, k3⟩ := A4.out k (by rw [rowsOf_len]; exact hlt)
                    rw [hg] at hx8 k2 k3
                    obtain ⟨hx8l, hx8a⟩ := hx8
                    simp only at c0 hix hrl hrm
                    obtain ⟨cn, hcn⟩ : ∃ cn, cn = (l.take p).count (k : Int) := ⟨_, rfl⟩
                    rw [← hcn] at k1 k2 k3
                    have hcount := count_any (some ⟨bl, ol, none⟩) p c1 _ (l.take p) (k : Int) _ HTK.out (by simp <;> omega) (by simp <;> omega)
                    rw [← hcn] at hcount
                    have HCO := Lib.hid hcount; clear hcount hcn
                    have hsum := all3_any ra cn rc _ (xs.take cn) _ (hix.take (k := cn)) (by simp <;> omega) (by simp <;> omega) (fun y hy => by have := hx8a y (List.mem_of_mem_take hy); omega)
                    obtain ⟨sm, hsm⟩ : ∃ sm, sm = (xs.take cn).sum := ⟨_, rfl⟩
                    rw [← hsm] at hsum k3
                    have HSU := Lib.hid hsum; clear hsum hsm
                    have HK1 := Lib.hid k1; clear k1
                    have HX8 := Lib.hid hx8a; clear hx8a hix hrk hg
                    have hg1 : decide ((xs.length : Int) < (cn : Int)) = false := decide_eq_false (by omega)
                    have hg2 : decide ((Q : Int) < sm) = false := decide_eq_false (by omega)
                    unfold maxLen at hrm
                    by_cases hki : i ≤ k
                    · obtain rfl : cn = 0 := HK1.out hki
                      have hg3 : decide ((i : Int) ≤ (k : Int)) = true := decide_eq_true (by omega)
                      have hg5 : decide (i ≤ k) = true := decide_eq_true (by omega)
                      go_wp2_with fail
                      refine HCO.out.mono ?_
                      rintro e w' ⟨rfl, rfl⟩
                      go_wp2_with fail
                      refine HSU.out.mono ?_
                      rintro e w' ⟨rfl, rfl⟩
                      go_wp2
                      go_round
                      case rel => exact ⟨k + 1, by omega, by go_num⟩
                      case measure => simp [intOf]; omega
                    · have hg3 : decide ((i : Int) ≤ (k : Int)) = false := decide_eq_false (by omega)
                      have hg5 : decide (i ≤ k) = false := decide_eq_false (by omega)
                      have hg6 : decide (xs.length < cn) = false := decide_eq_false (by omega)
                      go_wp2_with fail
                      refine HCO.out.mono ?_
                      rintro e w' ⟨rfl, rfl⟩
                      go_wp2_with fail
                      refine HSU.out.mono ?_
                      rintro e w' ⟨rfl, rfl⟩
                      go_wp2
                      go_round
                      case rel => exact ⟨k + 1, by omega, by go_num⟩
                      case measure => simp [intOf]; omega
                  · have hlen : decide ((p : Int) < (l.length : Int)) = true := decide_eq_true (by omega)
                    go_wp2
                    go_ret
                    exact ⟨ret_bool (by simp <;> omega), HB2.out⟩
    · have hin2 : ¬ ((0 : Int) ≤ i ∧ i ≤ (rs.length : Int) - 1) := hin
      have HIN := Lib.hid hin2; clear hin hin2
      go_wp2_with (go_at_call 17; refine (in3_no _ _ _ _ HIN.out).mono ?_; rintro e w' ⟨rfl, rfl⟩)
      go_ret
      exact ⟨rfl, HB2.out⟩
  · have HC := Lib.hid hc; clear hc
    have H0 := Lib.hid hc0; clear hc0
    go_enter Try.func8, Try.ntmps8
    go_wp2_with fail
    refine (drrFact_any _).mono ?_
    rintro e w1 ⟨rfl, hb⟩
    have HB := Lib.hid hb; clear hb
    go_wp2_with fail
    refine (drrRun_err _ _ _ _ rs Q c _ (HA.out.below HB.out) (HR.out.below HB.out) rfl (by omega) HC.out H0.out).mono ?_
    rintro e w' ⟨rfl, rfl⟩
    go_wp2
    go_ret
    exact ⟨rfl, HB.out⟩
end Go.Proofs.Ytommedhaaojgiaa
