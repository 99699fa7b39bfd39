/- RingFair returns true: nobody waits longer than a round, and all is sent. -/
import Derived.Test.YtommedhaaojgiaaRingFact
import Derived.Test.YtommedhaaojgiaaCnts
import Derived.Test.YtommedhaaojgiaaIn4
import Derived.StillTailTactics
namespace Go.Proofs.Ytommedhaaojgiaa
open Go.RowKit
set_option linter.unusedVariables false

set_option maxHeartbeats 1000000 in
theorem ringFair_walk (ao : Option Addr) (ac : Nat) (ws : List Int) (h : Int) (w : World) (hA : IntSl w.heap.size w ao ws) (hac : ws.length ≤ ac) (hmax : ac ≤ maxLen) (_ : ∀ x ∈ ws, -9223372036854775808 ≤ x ∧ x ≤ 9223372036854775807) (_ : -9223372036854775808 ≤ h ∧ h ≤ 9223372036854775807) :
    Calls Try.prog 9 #[.slice ao ws.length ac, .int .i64 h] w fun e w' => e = .returned (.bool true) ∧ Below w.heap.size w w' := by
  unfold maxLen at hmax
  have HA := Lib.hid hA; clear hA
  rcases ring_cases ws h with hok | ⟨c, hbad⟩
  · have HOK := Lib.hid hok
    obtain ⟨h0, h8, hall, hlo, hhi⟩ := hok
    obtain ⟨m, rfl⟩ := Int.eq_ofNat_of_zero_le (by omega : 0 ≤ h)
    obtain ⟨l, hl⟩ : ∃ l, l = ringOut ws m := ⟨_, rfl⟩
    have hll : l.length ≤ 320 := by rw [hl]; exact ringOut_len hall h8
    have hlm : ∀ x ∈ l, 0 ≤ x ∧ x < ws.length := fun x hx => by rw [hl] at hx; exact ringOut_mem hx
    have HLM := Lib.hid hlm; clear hlm
    obtain ⟨gp, hgp⟩ : ∃ gp, gp = gapOf l := ⟨_, rfl⟩
    have hgap : gp ≤ m * (ws.length - 1) := by rw [hgp, hl]; exact ring_gap (by omega)
    have hgm : m * (ws.length - 1) ≤ 20 * 7 := Nat.mul_le_mul (by omega) (by omega)
    obtain ⟨q, hq⟩ : ∃ q : Nat, (m : Int) * ((ws.length : Int) - 1) = (q : Int) ∧ q = m * (ws.length - 1) := ⟨m * (ws.length - 1), by rw [Int.natCast_mul, Int.natCast_sub h0]; rfl, rfl⟩
    have hgq : gp ≤ q := by rw [hq.2]; exact hgap
    have hqb : q ≤ 140 := by rw [hq.2]; exact hgm
    have HQ := Lib.hid hq.1
    have hfin : cnts l ws.length l.length = ws := by
      refine List.ext_getElem? fun i => ?_
      by_cases hi : i < ws.length
      · obtain ⟨x, hx⟩ : ∃ x, ws[i]? = some x := ⟨_, List.getElem?_eq_getElem hi⟩
        rw [cnts_get hi, List.take_length, hx, hl, ring_count hall (by omega) hx]
      · rw [List.getElem?_eq_none (by rw [cnts_len]; omega), List.getElem?_eq_none (by omega)]
    have HFIN := Lib.hid hfin; clear hfin hq hgap hgm
    have HGP := Lib.hid hgp; clear hgp
    have HL := Lib.hid hl; clear hl
    have HR := Lib.hid hall; clear hall
    go_enter Try.func9, Try.ntmps9
    go_wp2_with fail
    refine (ringFact_any _).mono ?_
    rintro e w1 ⟨rfl, hb⟩
    have HB := Lib.hid hb; clear hb
    have HA1 := Lib.hid (HA.out.below HB.out)
    go_wp2_with fail
    refine (ringRun_ok _ _ _ _ ws m _ HA1.out rfl HB.out.size HOK.out).mono ?_
    rintro e w2 ⟨va, rfl, hs, hb⟩
    rw [Int.toNat_natCast, ← HL.out] at hs
    have HB2 := Lib.hid (HB.out.trans (hb.mono HB.out.size)); clear hb
    have HA2 := Lib.hid (HA.out.below HB2.out)
    obtain ⟨ao1, c1, rfl, hc1, _⟩ := hs.intsShape (A := []) (C := [])
    have HX := Lib.hid (hs.intSl (A := []) (C := [])); clear hs
    go_wp2_with fail
    refine (ringGap_ok _ _ _ _ ws m _ HA2.out rfl HB2.out.size HOK.out).mono ?_
    rintro e w3 ⟨rfl, hb⟩
    rw [Int.toNat_natCast, ← HL.out, ← HGP.out]
    have hw23 := hb.size
    have HX4 := Lib.hid ((HX.out.below hb).mono hw23)
    have HB3 := Lib.hid (HB2.out.trans (hb.mono HB2.out.size)); clear hb
    have HA3 := Lib.hid (HA.out.below HB3.out)
    go_wp2_with (at_make; refine wpList_make_sep rfl _ _ rfl elemInt8 .i64 .i64 ws.length ws.length ws.length rfl rfl rfl rfl (by omega) (by unfold maxLen; omega) (Sep.nil w3.heap.size w3) (Nat.le_refl _) ?_)
    intro w4 hsep hbel hsz
    rw [madeInts, ← cnts_zero l] at hsep
    have hs4 : Sep w3.heap.size w4 [Ent.ints 3 (.slice (some ⟨w3.heap.size, 0, none⟩) ws.length ws.length) (cnts l ws.length 0)] := by
      unfold Ent.ints; rw [cnts_len]; exact hsep
    have HS4 := Lib.hid hs4; clear hs4 hsep
    have HB4 := Lib.hid hbel; clear hbel
    have HSZ := Lib.hid hsz; clear hsz
    go_wp2
    go_loopw [11] (fun i wr => ∃ k : Nat, k ≤ l.length ∧ i = .int .i64 k ∧ Sep w3.heap.size wr [Ent.ints 3 (.slice (some ⟨w3.heap.size, 0, none⟩) ws.length ws.length) (cnts l ws.length k)] ∧ Below w3.heap.size w3 wr) (fun i _ => l.length - (intOf i).toNat)
    case atStart => exact ⟨0, Nat.zero_le _, rfl, HS4.out, HB4.out⟩
    case round =>
      obtain ⟨k, hk, rfl, hsep, hbel⟩ := hrel
      by_cases hlt : k < l.length
      · obtain ⟨x, hx⟩ : ∃ x, l[k]? = some x := ⟨_, List.getElem?_eq_getElem hlt⟩
        obtain ⟨b, off, rfl, hbb, cx⟩ := (HX4.out.below hbel) k x hx
        have hxb := HLM.out x (List.mem_iff_getElem?.2 ⟨k, hx⟩)
        obtain ⟨y, rfl⟩ := Int.eq_ofNat_of_zero_le hxb.1
        have hyn : y < ws.length := by omega
        have hcg := cnts_get (l := l) (k := k) hyn
        obtain ⟨c, hc⟩ : ∃ c, c = (l.take k).count (y : Int) := ⟨_, rfl⟩
        have hcb : c ≤ 320 := by rw [hc]; exact Nat.le_trans List.count_le_length (by simp; omega)
        have hstep := cnts_step hx hyn
        rw [← hc] at hcg hstep
        have hsep2 := hsep
        obtain ⟨C, hC⟩ : ∃ C, C = cnts l ws.length k := ⟨_, rfl⟩
        have hCl : C.length = ws.length := by rw [hC, cnts_len]
        rw [← hC] at hsep hsep2 hcg hstep
        rw [← hCl] at hsep2
        obtain ⟨g', o', he, cc, fc⟩ := Sep.intsAt (A := []) (C := []) hsep2 hcg
        simp only [Option.some.injEq, Addr.mk.injEq, and_true] at he
        obtain ⟨rfl, rfl⟩ := he
        simp only [Nat.zero_add] at cc fc
        have HS2 := Lib.hid hsep2; clear hsep2
        have HBL := Lib.hid hbel; clear hbel
        have HCL := Lib.hid hCl; clear hCl
        have HST := Lib.hid hstep; clear hstep
        have HCG := Lib.hid hcg; clear hcg
        clear hC hc hsep hx
        have hin1 : (y : Int) ≤ (ws.length : Int) - 1 := by omega
        go_wp2_with (go_at_call 28; refine (in4_yes _ _ _ _ (by omega) (by omega)).mono ?_; rintro e w' ⟨rfl, rfl⟩)
        go_still_tail 14, (by kernel_rfl)
        change wpList _ _ _ _ _ wr.drew
        have HSD := Lib.hid HS2.out.drew
        have HBD := Lib.hid (HBL.out.trans (below_drew _ wr))
        generalize wr.drew = w5 at *
        obtain ⟨g', o', he, cc', fc'⟩ := Sep.intsAt (A := []) (C := []) HSD.out HCG.out
        simp only [Option.some.injEq, Addr.mk.injEq, and_true] at he
        obtain ⟨rfl, rfl⟩ := he
        have hset := Sep.intsSet (A := []) (C := []) HSD.out y ((c : Int) + 1)
        rw [HCL.out, HST.out] at hset
        simp only [Nat.zero_add] at cc' fc' hset
        have hbset := HBD.out.setCell (p := ⟨w3.heap.size, y, none⟩) (Nat.le_refl _) (.int .i64 ((c : Int) + 1))
        have HSET := Lib.hid hset; clear hset
        have HBSET := Lib.hid hbset; clear hbset
        go_wp2
        go_roundw
        case rel => exact ⟨k + 1, by omega, by go_num, HSET.out, HBSET.out⟩
        case measure => simp [intOf]; omega
      · have hkl : k = l.length := by omega
        rw [hkl, HFIN.out] at hsep
        have hA5 := HA3.out.below (hbel.mono HB3.out.size)
        have HA5 := Lib.hid hA5; clear hA5
        have hW := hsep.intSl (A := []) (C := [])
        have HW := Lib.hid hW; clear hW hsep
        have HBL := Lib.hid hbel; clear hbel
        have hgq2 : decide ((gp : Int) ≤ (q : Int)) = true := by simp; omega
        have HKL := Lib.hid hkl; clear hkl
        go_wp2_with fail
        refine (ints_any _ _ _ _ _ _ _ _ ws ws true _ HW.out HA5.out rfl rfl (by omega) (by simp)).mono ?_
        rintro e w6 ⟨rfl, hd⟩
        have HB7 := Lib.hid (below_of_drew hd); clear hd
        go_wp2
        go_ret
        refine ⟨ret_bool ?_, HB3.out.trans ((HBL.out.trans (HB7.out.mono HBL.out.size)).mono HB3.out.size)⟩
        rw [HQ.out, show wrap64 (q : Int) = (q : Int) by unfold wrap64; omega]
        exact hgq2
  · have HBAD := Lib.hid hbad; clear hbad
    go_enter Try.func9, Try.ntmps9
    go_wp2_with fail
    refine (ringFact_any _).mono ?_
    rintro e w1 ⟨rfl, hb⟩
    have HB := Lib.hid hb; clear hb
    have HA1 := Lib.hid (HA.out.below HB.out)
    go_wp2_with fail
    refine (ringRun_err _ _ _ _ ws h c _ HA1.out rfl (by omega) HBAD.out).mono ?_
    rintro e w' ⟨rfl, rfl⟩
    go_wp2_with fail
    refine (ringGap_err _ _ _ _ ws h c _ HA1.out rfl (by omega) HBAD.out).mono ?_
    rintro e w' ⟨rfl, rfl⟩
    go_wp2
    go_ret
    exact ⟨rfl, HB.out⟩
end Go.Proofs.Ytommedhaaojgiaa
