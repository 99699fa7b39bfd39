/- DrrOnce returns true: all is served, each thing once. -/
import Derived.Test.YtommedhaaojgiaaDrrFact
import Derived.Test.YtommedhaaojgiaaDrrLaw
namespace Go.Proofs.Ytommedhaaojgiaa
open Go.RowKit
set_option linter.unusedVariables false

set_option maxHeartbeats 1000000 in
theorem drrOnce_walk (ao : Option Addr) (ac : Nat) (rs : List Stp) (Q : Int) (w : World) (hA : RowSl w.heap.size w ao 1 (rs.map stpC)) (hac : rs.length ≤ ac) (hmax : ac ≤ maxLen) (hr : StpsOk w.heap.size w rs)
    (_ : -9223372036854775808 ≤ Q ∧ Q ≤ 9223372036854775807) :
    Calls Try.prog 6 #[.slice ao rs.length ac, .int .i64 Q] w fun e w' => e = .returned (.bool true) ∧ Below w.heap.size w w' := by
  unfold maxLen at hmax
  have HA := Lib.hid hA; clear hA
  have HR := Lib.hid hr; clear hr
  obtain ⟨c, hc⟩ : ∃ c, c = runCode (rowsOf rs) Q := ⟨_, rfl⟩
  by_cases hc0 : c = 0
  · obtain ⟨hok, hq1, hq2⟩ := runCode_zero.1 (hc.symm.trans hc0)
    clear hc hc0
    obtain ⟨Q, rfl⟩ := Int.eq_ofNat_of_zero_le (by omega : 0 ≤ Q)
    have hn5 : rs.length ≤ 5 := by rw [← rowsOf_len]; exact hok.few
    obtain ⟨l, hl⟩ : ∃ l, l = drrOut (rowsOf rs) Q := ⟨_, rfl⟩
    have htot : l.length = drrTot (rowsOf rs) := by rw [hl]; exact drr_total hok (by omega)
    have hll : l.length ≤ 40 := by rw [htot]; exact drrTot_le hok
    have honce : ∀ i, i < rs.length → l.count (i : Int) = ((rowsOf rs).getD i []).length := fun i hi => by rw [hl]; exact drr_once hok (by omega) (by rw [rowsOf_len]; exact hi)
    have HON := Lib.hid honce; clear honce
    have HTOT := Lib.hid htot; clear htot
    have HL := Lib.hid hl; clear hl
    have HOK := Lib.hid hok; clear hok
    go_enter Try.func6, Try.ntmps6
    go_wp2_with fail
    refine (drrFact_any _).mono ?_
    rintro e w1 ⟨rfl, hb⟩
    have HB := Lib.hid hb; clear hb
    go_wp2_with fail
    refine (drrRun_ok _ _ _ _ rs Q _ (HA.out.below HB.out) (HR.out.below HB.out) rfl HB.out.size HOK.out ⟨hq1, hq2⟩).mono ?_
    rintro e w2 ⟨va, rfl, hs, hb⟩
    rw [Int.toNat_natCast, ← HL.out] at hs
    have HB2 := Lib.hid (HB.out.trans (hb.mono HB.out.size)); clear hb
    obtain ⟨ao1, c1, rfl, hc1, _⟩ := hs.intsShape (A := []) (C := [])
    have hX := hs.intSl (A := []) (C := [])
    have HX : Hid (∀ q, IntSl w2.heap.size (w2.drewN q) ao1 l) := Lib.hid (fun q => hX.below (below_drewN _ _ q))
    clear hX hs
    have HA2 : Hid (∀ q, RowSl w.heap.size (w2.drewN q) ao 1 (rs.map stpC)) := Lib.hid (fun q => HA.out.below (HB2.out.trans (below_drewN _ _ q)))
    have HTE : Hid (((l.length : Int) == ((drrTot (rowsOf rs) : Nat) : Int)) = true) := Lib.hid (by rw [HTOT.out]; simp)
    go_wp2
    go_loopw [8] (fun i wr => ∃ k : Nat, k ≤ rs.length ∧ i = .int .i64 k ∧ ∃ m, wr = w2.drewN m) (fun i _ => rs.length - (intOf i).toNat)
    case atStart => exact ⟨0, Nat.zero_le _, rfl, 0, rfl⟩
    case round =>
      obtain ⟨k, hk, rfl, m, rfl⟩ := hrel
      by_cases hlt : k < rs.length
      · obtain ⟨⟨ra, rc, xs⟩, hrk⟩ : ∃ r, rs[k]? = some r := ⟨_, List.getElem?_eq_getElem hlt⟩
        obtain ⟨b, off, rfl, hbb, c0⟩ := rows_at (HA.out.below HB2.out) hrk
        have hrg := rowsOf_get hrk
        have hx8 := (HOK.out.all xs (List.mem_iff_getElem?.2 ⟨k, hrg⟩)).1
        have hcnt := HON.out k hlt
        rw [List.getD_eq_getElem?_getD, hrg] at hcnt
        simp only [Option.getD_some] at hcnt
        simp only at c0
        have hne : ((xs.length : Int) != (xs.length : Int)) = false := by simp
        have HCN := Lib.hid hcnt; clear hcnt hrk hrg
        have hcall := fun q => (count_any ao1 l.length c1 _ l (k : Int) _ (HX.out q) rfl (by omega))
        rw [HCN.out] at hcall
        have HCA := Lib.hid hcall; clear hcall
        go_wp2_with fail
        go_quiet (first | (go_at_call 22; exact quiet_id (HCA.out _) ⟨_, rfl⟩))
        go_wp2
        go_roundw
        case rel => exact ⟨k + 1, by omega, by go_num, (by first | exact ⟨_, rfl⟩ | exact drewN_two w2 m _)⟩
        case measure => simp [intOf]; omega
      · go_wp2_with (go_at_call 23; refine (things_any _ _ _ _ rs _ (HA2.out m) rfl HOK.out).mono ?_; rintro e w' ⟨rfl, rfl⟩)
        go_ret
        exact ⟨ret_bool HTE.out, HB2.out.trans (below_drewN _ _ m)⟩
  · have HC := Lib.hid hc; clear hc
    have H0 := Lib.hid hc0; clear hc0
    go_enter Try.func6, Try.ntmps6
    go_wp2_with fail
    refine (drrFact_any _).mono ?_
    rintro e w1 ⟨rfl, hb⟩
    have HB := Lib.hid hb; clear hb
    go_wp2_with fail
    refine (drrRun_err _ _ _ _ rs Q c _ (HA.out.below HB.out) (HR.out.below HB.out) rfl (by omega) HC.out H0.out).mono ?_
    rintro e w' ⟨rfl, rfl⟩
    go_wp2
    go_ret
    exact ⟨rfl, HB.out⟩
end Go.Proofs.Ytommedhaaojgiaa
