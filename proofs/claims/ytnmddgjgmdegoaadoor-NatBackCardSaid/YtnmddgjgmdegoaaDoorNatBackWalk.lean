/- NatBack returns true: the port that a place is lent leads to it, and stays its own till it is dropped. -/
import Derived.Test.YtnmddgjgmdegoaaDoorNatAny
import Derived.Test.YtnmddgjgmdegoaaDoorNatLaws
import Derived.Test.YtnmddgjgmdegoaaDoorPlLaw
import Derived.Test.YtnmddgjgmdegoaaDoorIn4
import Derived.Deep.RegionHeld3
namespace Go.Proofs.YtnmddgjgmdegoaaDoor
open Go.RowKit Go.Maps
set_option linter.unusedVariables false
set_option maxRecDepth 100000

theorem StpsB.ok {B : Nat} {w : World} {rs : List Stp} (h : StpsB B w rs) : StpsOk B w rs := fun r hr => (h r hr).1
theorem StpsB.on {w w' : World} {rs : List Stp} (h : StpsB w.heap.size w rs) (hb : Below w.heap.size w w') : StpsB w'.heap.size w' rs := fun r hr => ⟨⟨((h r hr).1.1.below hb).mono hb.size, (h r hr).1.2⟩, (h r hr).2⟩
theorem rowOn {w w' : World} {ao : Option Addr} {n : Nat} {L : List (List Value)} (h : RowSl w.heap.size w ao n L) (hb : Below w.heap.size w w') : RowSl w'.heap.size w' ao n L := by
  intro j cs hj
  obtain ⟨b, off, h1, h2, h3⟩ := (h.below hb) j cs hj
  exact ⟨b, off, h1, Nat.lt_of_lt_of_le h2 hb.size, h3⟩
set_option maxHeartbeats 4000000 in
theorem natBack_walk (low many : Int) (ao : Option Addr) (ac : Nat) (rs : List Stp) (pa pb : Int) (bo : Option Addr) (bc : Nat) (ms : List Stp) (w : World) (hdoor : Door w) (_ : -9223372036854775808 ≤ low ∧ low ≤ 9223372036854775807) (_ : -9223372036854775808 ≤ many ∧ many ≤ 9223372036854775807)
    (hA : RowSl w.heap.size w ao 1 (rs.map stpC)) (hac : rs.length ≤ ac) (hmax : ac ≤ maxLen) (hr : StpsB w.heap.size w rs) (hpl : PlGood (pa, pb)) (hM : RowSl w.heap.size w bo 1 (ms.map stpC)) (hbc : ms.length ≤ bc) (hbx : bc ≤ maxLen) (hmr : StpsB w.heap.size w ms) :
    Calls Tryd.prog 3 #[.int .i64 low, .int .i64 many, .slice ao rs.length ac, .agg #[.int .i64 pa, .int .i64 pb], .slice bo ms.length bc] w fun e w' => e = .returned (.bool true) ∧ Below w.heap.size w w' := by
  unfold maxLen at hmax hbx
  have hb0 := below_alloc w (.cells #[.int .i64 pa, .int .i64 pb] 24)
  obtain ⟨gp, hgp⟩ : ∃ gp, gp = w.heap.size := ⟨_, rfl⟩
  obtain ⟨w0, hw0⟩ : ∃ w0, w0 = w.alloc (.cells #[.int .i64 pa, .int .i64 pb] 24) := ⟨_, rfl⟩
  have p0 : w0.cell? ⟨gp, 0, none⟩ = some (.int .i64 pa) := by rw [hw0, hgp]; exact (World.cell?_alloc_mark ..).trans rfl
  have p1 : w0.cell? ⟨gp, 1, none⟩ = some (.int .i64 pb) := by rw [hw0, hgp]; exact (World.cell?_alloc_mark ..).trans rfl
  rw [← hw0] at hb0
  have hdoor0 : Door w0 := hdoor.on hb0
  have HSAME4 := Lib.hid (saysC 4 (by decide) w0 hdoor0)
  have HFACT := Lib.hid (natFact_any w0.heap.size w0 w0 (saysC 4 (by decide) w0 hdoor0) (Nat.le_refl _) (Below.refl _ _))
  have HA := Lib.hid (rowOn hA hb0)
  have HR := Lib.hid (hr.on hb0)
  have HM := Lib.hid (rowOn hM hb0)
  have HMR := Lib.hid (hmr.on hb0)
  have HGE := Lib.hid hb0.size
  have HB00 := Lib.hid hb0
  have hp : ∀ w', Below w0.heap.size w0 w' → w'.cell? ⟨gp, 0, none⟩ = some (.int .i64 pa) ∧ w'.cell? ⟨gp, 1, none⟩ = some (.int .i64 pb) := fun w' h =>
    ⟨(h.cell (p := ⟨gp, 0, none⟩) (World.block_lt_of_cell? w0 _ p0)).trans p0, (h.cell (p := ⟨gp, 1, none⟩) (World.block_lt_of_cell? w0 _ p1)).trans p1⟩
  have HPC := Lib.hid hp
  obtain ⟨G, hG⟩ : ∃ G, G = w0.heap.size := ⟨_, rfl⟩
  rw [← hG] at HSAME4 HFACT HA HR HM HMR HGE HPC
  have HG := Lib.hid hG
  have HW0 := Lib.hid hw0
  have HGP := Lib.hid hgp
  clear hG hw0 hgp hp p0 p1 hb0 hdoor hdoor0 hA hr hM hmr
  go_enter Tryd.func3, Tryd.ntmps3
  go_upto_region 1 with fail
  rw [← HW0.out, ← HGP.out]
  clear HW0
  go_wp2_with fail
  refine HFACT.out.mono ?_
  rintro e w1 ⟨rfl, hb⟩
  have HB1 := Lib.hid hb
  clear hb HFACT
  by_cases hlm : LmOk low many
  · obtain ⟨n, rfl⟩ := Int.eq_ofNat_of_zero_le (by have := hlm.2.1.1; omega : 0 ≤ many)
    have HLM := Lib.hid hlm
    have hl1 := hlm.1.1
    have hl2 := hlm.1.2
    have hn1 : 1 ≤ n := by have := hlm.2.1.1; omega
    have hn2 : n ≤ 30 := by have := hlm.2.1.2; omega
    have hln := hlm.2.2
    clear hlm
    have hg1 : G ≤ w1.heap.size := by have := HB1.out.size; rw [← HG.out] at this; exact this
    go_wp2_with fail
    refine (natNew_ok low n w1 HLM.out).mono ?_
    rintro e w2 ⟨g, rfl, ht, hb⟩
    have HT2 := Lib.hid (ht.mono hg1)
    have HB2 := Lib.hid (HB1.out.trans (hb.mono hg1))
    have hg2 : G ≤ w2.heap.size := by have := HB2.out.size; rw [← HG.out] at this; exact this
    clear ht hb
    go_wp2_with fail
    refine (lent_any G g low n [] [] ao ac rs w2 HT2.out hg2 (HA.out.below HB2.out) (fun r hr => ⟨(HR.out r hr).1.1.below HB2.out, (HR.out r hr).1.2⟩) (by omega) (fun r hr => (HR.out r hr).2)).mono ?_
    rintro e w3 ⟨rfl, ⟨M, ht⟩, hb⟩
    have HT3 := Lib.hid ht
    have HB3 := Lib.hid (HB2.out.trans hb)
    have hg3 : G ≤ w3.heap.size := by have := HB3.out.size; rw [← HG.out] at this; exact this
    clear ht hb HT2 HB2 hg2 HB1 hg1
    obtain ⟨p0, p1⟩ := HPC.out _ HB3.out
    have hn := natOut_any G g low (n : Int) M [] (pa, pb) w3 HT3.out hg3
    unfold plV at hn
    by_cases hc : (natOut low (n : Int) M (pa, pb)).2.2 = 0
    · obtain ⟨hpk, hmem⟩ := natOut_zero HT3.out.ok hc
      rw [hc, errV_zero] at hn
      obtain ⟨R, hR⟩ : ∃ R, R = natOut low (n : Int) M (pa, pb) := ⟨_, rfl⟩
      rw [← hR] at hn hmem
      obtain ⟨M1, r, c⟩ := R
      simp only at hn hmem
      have HN := Lib.hid hn
      have HMEM := Lib.hid hmem
      clear hn hmem hc hR
      go_wp2_with fail
      refine HN.out.mono ?_
      rintro e w4 ⟨rfl, ht, hb⟩
      have HT4 := Lib.hid ht
      have HB4 := Lib.hid (HB3.out.trans hb)
      clear ht hb HN p0 p1 HT3 HB3 hg3
      have hrb := HT4.out.ok.rng _ HMEM.out
      simp only at hrb
      go_wp2
      go_loopw [15] (fun iv wr => ∃ (k : Nat) (M' : NatM), k ≤ ms.length ∧ iv = .int .i64 k ∧ NatT G wr g low (n : Int) M' [] ∧ Hid ((r, (pa, pb)) ∈ M') ∧ Below G w0 wr) (fun iv _ => ms.length - (intOf iv).toNat)
      case atStart => exact ⟨0, M1, Nat.zero_le _, rfl, HT4.out, HMEM, HB4.out⟩
      case round =>
        obtain ⟨k, M', hk, rfl, ht, HMK, hbel⟩ := hrel
        have HT5 := Lib.hid ht
        have HB5 := Lib.hid hbel
        clear ht hbel HT4 HB4 HMEM
        obtain ⟨w5, hw5⟩ : ∃ w5, w5 = wr := ⟨_, rfl⟩
        obtain rfl := hw5
        have hg5 : G ≤ w5.heap.size := by have := HB5.out.size; rw [← HG.out] at this; exact this
        by_cases hlt : k < ms.length
        · have hki : (k : Int) < (ms.length : Int) := by omega
          have hk0 : (0 : Int) ≤ (k : Int) := by omega
          by_cases h60 : k < 60
          · have hd60 : decide ((k : Int) < 60) = true := decide_eq_true (by omega)
            obtain ⟨⟨ra, rc, xs⟩, hrk⟩ : ∃ r, ms[k]? = some r := ⟨_, List.getElem?_eq_getElem hlt⟩
            have hA1 := HM.out.below HB5.out
            obtain ⟨b0, off0, rfl, hbb, c0⟩ := rows_at hA1 hrk
            obtain ⟨⟨hi, hrl, hrm⟩, hgx⟩ := HMR.out _ (List.mem_iff_getElem?.2 ⟨k, hrk⟩)
            simp only at hi hrl hrm c0 hgx
            have hc0 : ∀ w', Below G w5 w' → w'.cell? ⟨b0, off0 + k, none⟩ = some (.slice ra xs.length rc) := fun w' h => (h.cell (p := ⟨b0, off0 + k, none⟩) hbb).trans c0
            have HC0 := Lib.hid hc0
            have HI := Lib.hid hi
            clear hi hrk hrl hrm hA1 hc0
            by_cases h2 : xs.length = 2
            · obtain ⟨a, b, rfl⟩ : ∃ a b, xs = [a, b] := by
                match xs, h2 with
                | [a, b], _ => exact ⟨a, b, rfl⟩
              have hl2' : (((([a, b] : List Int).length : Nat) : Int) == 2) = true := rfl
              obtain ⟨bl, ol, rfl, hbl, r0⟩ := HI.out 0 a rfl
              obtain ⟨_, _, he, _, r1⟩ := HI.out 1 b rfl
              cases he
              have hcl : ∀ w', Below G w0 w' → w'.cell? ⟨bl, ol, none⟩ = some (.int .i64 a) ∧ w'.cell? ⟨bl, ol + 1, none⟩ = some (.int .i64 b) := fun w' h =>
                ⟨(h.cell (p := ⟨bl, ol, none⟩) hbl).trans r0, (h.cell (p := ⟨bl, ol + 1, none⟩) hbl).trans r1⟩
              have HCL := Lib.hid hcl
              clear hcl r0 r1 hbl h2
              have hn := natOut_any G g low (n : Int) M' [] (a, b) w5.drew (by obtain ⟨h1, mp, mq, e1, c1, e2, c2, m1, m2, hs⟩ := HT5.out; exact ⟨h1, mp, mq, e1, c1, e2, c2, m1, m2, hs.drew⟩) hg5
              unfold plV at hn
              have hkp := natOut_keep (low := low) (many := (n : Int)) (p := (a, b)) HMK.out
              obtain ⟨M2, hM2⟩ : ∃ M2, M2 = natOut low (n : Int) M' (a, b) := ⟨_, rfl⟩
              rw [← hM2] at hn hkp
              have HN := Lib.hid hn
              have HKP := Lib.hid hkp
              have HK0 := Lib.hid (And.intro (show w5.drew.cell? ⟨b0, off0 + k, none⟩ = some (.slice (some ⟨bl, ol, none⟩) 2 rc) from c0) (HCL.out _ HB5.out.drew))
              clear hn hM2 hkp
              go_wp2_with fail
              go_region_held3 (fun w' => w'.cell? ⟨b0, off0 + k, none⟩ = some (.slice (some ⟨bl, ol, none⟩) 2 rc) ∧ w'.cell? ⟨bl, ol, none⟩ = some (.int .i64 a) ∧ w'.cell? ⟨bl, ol + 1, none⟩ = some (.int .i64 b)) (first | exact HK1.out | exact HK0.out) (first
                | (go_at_call 12; refine HN.out.mono ?_; rintro e w6 ⟨rfl, ht, hb⟩; have HT6 := Lib.hid ht; have HB6 := Lib.hid (HB5.out.drew.trans hb); have HK1 := Lib.hid (And.intro (HC0.out _ ((Below.refl G w5).drew.trans hb)) (HCL.out _ HB6.out)); clear ht hb)
                | fail)
              have c2 := HK1.out.1
              clear HK0 HK1 HN HT5 HB5 hg5 c0
              go_wp2
              go_roundw
              case rel => exact ⟨k + 1, _, by omega, by go_num, HT6.out, HKP, HB6.out⟩
              case measure => simp [intOf]; omega
            · have hne : ((xs.length : Int) == 2) = false := beq_eq_false_iff_ne.2 (by omega)
              have hne2 : (xs.length == 2) = false := by simp [h2]
              clear h2
              by_cases h1 : xs.length = 1
              · obtain ⟨q, rfl⟩ : ∃ q, xs = [q] := List.length_eq_one_iff.1 h1
                have hl1' : (((([q] : List Int).length : Nat) : Int) == 1) = true := rfl
                obtain ⟨bl, ol, rfl, hbl, r0⟩ := HI.out 0 q rfl
                have r1 : w5.cell? ⟨bl, ol, none⟩ = some (.int .i64 q) := (HB5.out.cell (p := ⟨bl, ol, none⟩) hbl).trans r0
                have hqb := hgx q (by simp)
                clear r0 hbl h1
                by_cases hqr : q = r
                · have hqe : (q != r) = false := by simp [hqr]
                  clear hqr
                  go_wp2
                  go_roundw
                  case rel => exact ⟨k + 1, _, by omega, by go_num, HT5.out, HMK, HB5.out⟩
                  case measure => simp [intOf]; omega
                · have hqe : (q != r) = true := by simp [hqr]
                  have HKP := Lib.hid (natDrop_keep HT5.out.ok (q := q) HMK.out (fun e => hqr e.symm))
                  clear hqr
                  go_wp2_with fail
                  refine (natDrop_any G g low (n : Int) M' [] q w5 HT5.out hg5 hqb).mono ?_
                  rintro e w6 ⟨rfl, ht, hb⟩
                  have HT6 := Lib.hid ht
                  have HB6 := Lib.hid (HB5.out.trans hb)
                  clear ht hb r1 c0 HT5 HB5 hg5
                  go_wp2
                  go_roundw
                  case rel => exact ⟨k + 1, _, by omega, by go_num, HT6.out, HKP, HB6.out⟩
                  case measure => simp [intOf]; omega
              · have hn1' : ((xs.length : Int) == 1) = false := beq_eq_false_iff_ne.2 (by omega)
                have hn2' : (xs.length == 1) = false := by simp [h1]
                clear h1
                go_wp2
                go_roundw
                case rel => exact ⟨k + 1, _, by omega, by go_num, HT5.out, HMK, HB5.out⟩
                case measure => simp [intOf]; omega
          · have hd60 : decide ((k : Int) < 60) = false := decide_eq_false (by omega)
            have hd61 : decide (k < 60) = false := decide_eq_false h60
            clear h60
            obtain ⟨p0, p1⟩ := HPC.out _ HB5.out
            have hn := natOut_any G g low (n : Int) M' [] (pa, pb) w5 HT5.out hg5
            unfold plV at hn
            rw [natOut_again HT5.out.ok HMK.out, errV_zero] at hn
            have HN := Lib.hid hn
            clear hn
            go_wp2_with fail
            refine HN.out.mono ?_
            rintro e w6 ⟨rfl, ht, hb⟩
            have HT6 := Lib.hid ht
            have HB6 := Lib.hid (HB5.out.trans hb)
            have hg6 : G ≤ w6.heap.size := by have := HB6.out.size; rw [← HG.out] at this; exact this
            clear ht hb HN p0 p1 HB5 hg5
            have hi := natIn_some G g low (n : Int) M' [] r (pa, pb) w6 HT6.out (by omega) (HT6.out.ok.place_is.2 HMK.out)
            unfold plV at hi
            have HN := Lib.hid hi
            clear hi
            go_wp2_with fail
            refine HN.out.mono ?_
            rintro e w7 ⟨rfl, hb⟩
            have HB7 := Lib.hid ((HB6.out.trans (hb.mono hg6)).alloc (Nat.le_trans hg6 hb.size) (.cells #[.int .i64 pa, .int .i64 pb] 24))
            obtain ⟨p0, p1⟩ := HPC.out _ HB7.out
            have hrr : (r == r) = true := by simp
            have haa : (pa == pa) = true := by simp
            have hbb' : (pb == pb) = true := by simp
            have hlo : decide (low ≤ r) = true := decide_eq_true hrb.1
            have hhi : decide (r - low < (n : Int)) = true := decide_eq_true (by omega)
            have hrlo : low ≤ r := hrb.1
            have hrhi : r < low + (n : Int) := hrb.2
            clear hb HN
            go_wp2
            go_ret
            exact ⟨rfl, HB00.out.trans (HB7.out.mono HGE.out)⟩
        · have hki : decide ((k : Int) < (ms.length : Int)) = false := decide_eq_false (by omega)
          have hki2 : decide (k < ms.length) = false := decide_eq_false hlt
          clear hlt
          obtain ⟨p0, p1⟩ := HPC.out _ HB5.out
          have hn := natOut_any G g low (n : Int) M' [] (pa, pb) w5 HT5.out hg5
          unfold plV at hn
          rw [natOut_again HT5.out.ok HMK.out, errV_zero] at hn
          have HN := Lib.hid hn
          clear hn
          go_wp2_with fail
          refine HN.out.mono ?_
          rintro e w6 ⟨rfl, ht, hb⟩
          have HT6 := Lib.hid ht
          have HB6 := Lib.hid (HB5.out.trans hb)
          have hg6 : G ≤ w6.heap.size := by have := HB6.out.size; rw [← HG.out] at this; exact this
          clear ht hb HN p0 p1 HB5 hg5
          have hi := natIn_some G g low (n : Int) M' [] r (pa, pb) w6 HT6.out (by omega) (HT6.out.ok.place_is.2 HMK.out)
          unfold plV at hi
          have HN := Lib.hid hi
          clear hi
          go_wp2_with fail
          refine HN.out.mono ?_
          rintro e w7 ⟨rfl, hb⟩
          have HB7 := Lib.hid ((HB6.out.trans (hb.mono hg6)).alloc (Nat.le_trans hg6 hb.size) (.cells #[.int .i64 pa, .int .i64 pb] 24))
          obtain ⟨p0, p1⟩ := HPC.out _ HB7.out
          have hrr : (r == r) = true := by simp
          have haa : (pa == pa) = true := by simp
          have hbb' : (pb == pb) = true := by simp
          have hlo : decide (low ≤ r) = true := decide_eq_true hrb.1
          have hhi : decide (r - low < (n : Int)) = true := decide_eq_true (by omega)
          have hrlo : low ≤ r := hrb.1
          have hrhi : r < low + (n : Int) := hrb.2
          clear hb HN
          go_wp2
          go_ret
          exact ⟨rfl, HB00.out.trans (HB7.out.mono HGE.out)⟩
    · have hz := natOut_not hc
      rw [hz, errV_not hc] at hn
      have HN := Lib.hid hn
      clear hn hz hc
      go_wp2_with fail
      refine HN.out.mono ?_
      rintro e w4 ⟨rfl, ht, hb⟩
      have HB4 := Lib.hid (HB3.out.trans hb)
      clear ht hb HN p0 p1
      go_wp2
      go_ret
      exact ⟨rfl, HB00.out.trans (HB4.out.mono HGE.out)⟩
  · have HNO := Lib.hid hlm
    have HNW := Lib.hid (natNew_no low many w1 hlm)
    go_wp2_with fail
    refine HNW.out.mono ?_
    rintro e w' ⟨rfl, rfl⟩
    by_cases h1 : 0 ≤ low ∧ low ≤ 65535
    · by_cases h2 : 1 ≤ many ∧ many ≤ 30
      · have h3 : decide (65536 - many < low) = true := decide_eq_true (by have := HNO.out; unfold LmOk at this; omega)
        have h4 : 1 ≤ many := h2.1
        have h5 : many ≤ 30 := h2.2
        clear hlm
        go_wp2_with fail
        refine (in4_yes _ _ _ _ h1.1 h1.2).mono ?_
        rintro e w' ⟨rfl, rfl⟩
        go_wp2_with fail
        refine (in4_yes _ _ _ _ h4 h5).mono ?_
        rintro e w' ⟨rfl, rfl⟩
        go_wp2
        go_ret
        exact ⟨rfl, HB00.out.trans (HB1.out.mono HGE.out)⟩
      · have H2 := Lib.hid h2
        clear h2 hlm
        go_wp2_with fail
        refine (in4_yes _ _ _ _ h1.1 h1.2).mono ?_
        rintro e w' ⟨rfl, rfl⟩
        go_wp2_with fail
        refine (in4_no _ _ _ _ H2.out).mono ?_
        rintro e w' ⟨rfl, rfl⟩
        go_wp2
        go_ret
        exact ⟨rfl, HB00.out.trans (HB1.out.mono HGE.out)⟩
    · have H1 := Lib.hid h1
      clear h1 hlm
      go_wp2_with fail
      refine (in4_no _ _ _ _ H1.out).mono ?_
      rintro e w' ⟨rfl, rfl⟩
      go_wp2
      go_ret
      exact ⟨rfl, HB00.out.trans (HB1.out.mono HGE.out)⟩
end Go.Proofs.YtnmddgjgmdegoaaDoor
