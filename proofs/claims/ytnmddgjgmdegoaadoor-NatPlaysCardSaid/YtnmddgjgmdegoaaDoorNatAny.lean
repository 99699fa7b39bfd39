/- nat: Out and Drop, whatever comes; natFact; lent. -/
import Derived.Test.YtnmddgjgmdegoaaDoorNatOut
import Derived.Test.YtnmddgjgmdegoaaDoorSays
import Derived.Test.YtnmddgjgmdegoaaDoorStp
namespace Go.Proofs.YtnmddgjgmdegoaaDoor
open Go.RowKit Go.Maps
set_option linter.unusedVariables false
set_option maxRecDepth 100000

theorem NatT.ok {B g : Nat} {low many : Int} {M : NatM} {F : List Ent} {w : World} (h : NatT B w g low many M F) : NatOk low many M := h.1
theorem natOut_any (B g : Nat) (low many : Int) (M : NatM) (F : List Ent) (p : Pl) (w : World) (h : NatT B w g low many M F) (hB : B ≤ w.heap.size) :
    Calls Tryd.prog 12 #[.pointer (some ⟨g, 0, none⟩), plV p] w fun e w' => e = .returned (.tuple #[.int .i64 (natOut low many M p).2.1, errV (natOut low many M p).2.2]) ∧ NatT B w' g low many (natOut low many M p).1 F ∧ Below B w w' := by
  by_cases hp : PlOk p
  · cases hq : portOf M p with
    | some q =>
      refine (natOut_has B g low many M F p q w h hp hq).mono ?_
      rintro e w' ⟨rfl, hb⟩
      have e1 : natOut low many M p = (M, q, 0) := by unfold natOut; rw [if_pos hp, hq]
      rw [e1]
      exact ⟨rfl, h.kept hb, hb.mono hB⟩
    | none =>
      refine (natOut_free B g low many M F p _ w h hB hp hq rfl).mono ?_
      rintro e w' ⟨h1, h2⟩
      cases hf : freeFrom M many.toNat low with
      | some q =>
        have e1 : natOut low many M p = (M ++ [(q, p)], q, 0) := by unfold natOut; rw [if_pos hp, hq]; simp only []; rw [hf]
        rw [e1]
        obtain ⟨rfl, h3, h4⟩ := h1 q hf
        exact ⟨rfl, h3, h4⟩
      | none =>
        have e1 : natOut low many M p = (M, 0, 4) := by unfold natOut; rw [if_pos hp, hq]; simp only []; rw [hf]
        rw [e1]
        obtain ⟨rfl, h3, h4⟩ := h2 hf
        exact ⟨rfl, h3, h4⟩
  · refine (natOut_bad B g low many M F p w h hp).mono ?_
    rintro e w' ⟨rfl, hb⟩
    have e1 : natOut low many M p = (M, 0, 1) := by unfold natOut; rw [if_neg hp]
    rw [e1]
    exact ⟨rfl, h.kept hb, hb.mono hB⟩
theorem natDrop_any (B g : Nat) (low many : Int) (M : NatM) (F : List Ent) (q : Int) (w : World) (h : NatT B w g low many M F) (hB : B ≤ w.heap.size) (hq : -9223372036854775808 ≤ q ∧ q ≤ 9223372036854775807) :
    Calls Tryd.prog 13 #[.pointer (some ⟨g, 0, none⟩), .int .i64 q] w fun e w' => e = .returned (errV (natDrop M q).2) ∧ NatT B w' g low many (natDrop M q).1 F ∧ Below B w w' := by
  cases hp : placeOf M q with
  | none =>
    refine (natDrop_none B g low many M F q w h hB hq hp).mono ?_
    rintro e w' ⟨rfl, hb⟩
    have e1 : natDrop M q = (M, 5) := by unfold natDrop; rw [if_pos hp]
    rw [e1]
    exact ⟨rfl, h.kept hb, hb.mono hB⟩
  | some p =>
    refine (natDrop_some B g low many M F q p w h hB hq hp).mono ?_
    rintro e w' ⟨rfl, hb1, hb2⟩
    have e1 : natDrop M q = (M.eraseP (fun x => decide (x.1 = q)), 0) := by unfold natDrop; rw [if_neg (by rw [hp]; simp)]
    rw [e1]
    exact ⟨rfl, hb1, hb2⟩
set_option maxHeartbeats 2000000 in
theorem natFact_any (G : Nat) (w0 w : World) (hs : SaysC G w0 4) (hG : G ≤ w0.heap.size) (hb0 : Below G w0 w) : Calls Tryd.prog 8 #[] w fun e w' => e = .returned (.bool true) ∧ Below G w w' := by
  have HSAME := Lib.hid hs
  have HB0 := Lib.hid hb0
  have hgw : G ≤ w.heap.size := Nat.le_trans hG hb0.size
  have HNW := Lib.hid (natNew_ok 100 2 w (by decide))
  clear hs hb0
  go_enter Tryd.func8, Tryd.ntmps8
  go_wp2_with fail
  refine HNW.out.mono ?_
  rintro e w1 ⟨g, rfl, ht, hb⟩
  have HT1 := Lib.hid (ht.mono hgw)
  have HB1 := Lib.hid (hb.mono hgw)
  have hg1 : G ≤ w1.heap.size := Nat.le_trans hgw HB1.out.size
  clear ht hb HNW
  have hn := natOut_any G g 100 2 [] [] (1,2) w1 HT1.out hg1
  rw [show natOut 100 2 [] (1,2) = ([(100,(1,2))],100,0) by decide] at hn
  unfold plV at hn
  simp only [errV_zero] at hn
  have HN := Lib.hid hn
  clear hn
  go_wp2_with fail
  refine HN.out.mono ?_
  rintro e w2 ⟨rfl, ht, hb⟩
  have HT2 := Lib.hid ht
  have HB2 := Lib.hid (HB1.out.trans hb)
  have hg2 : G ≤ w2.heap.size := Nat.le_trans hgw HB2.out.size
  clear ht hb HN
  have hn := natOut_any G g 100 2 [(100,(1,2))] [] (1,3) w2 HT2.out hg2
  rw [show natOut 100 2 [(100,(1,2))] (1,3) = ([(100,(1,2)),(101,(1,3))],101,0) by decide] at hn
  unfold plV at hn
  simp only [errV_zero] at hn
  have HN := Lib.hid hn
  clear hn
  go_wp2_with fail
  refine HN.out.mono ?_
  rintro e w3 ⟨rfl, ht, hb⟩
  have HT3 := Lib.hid ht
  have HB3 := Lib.hid (HB2.out.trans hb)
  have hg3 : G ≤ w3.heap.size := Nat.le_trans hgw HB3.out.size
  clear ht hb HN
  have hn := natOut_any G g 100 2 [(100,(1,2)),(101,(1,3))] [] (1,4) w3 HT3.out hg3
  rw [show natOut 100 2 [(100,(1,2)),(101,(1,3))] (1,4) = ([(100,(1,2)),(101,(1,3))],0,4) by decide] at hn
  unfold plV at hn
  simp only [errV_not (show ¬ (4 : Int) = 0 by decide)] at hn
  have HN := Lib.hid hn
  clear hn
  go_wp2_with fail
  refine HN.out.mono ?_
  rintro e w4 ⟨rfl, ht, hb⟩
  have HT4 := Lib.hid ht
  have HB4 := Lib.hid (HB3.out.trans hb)
  have hg4 : G ≤ w4.heap.size := Nat.le_trans hgw HB4.out.size
  clear ht hb HN
  have hi := natIn_some G g 100 2 _ [] 101 (1, 3) w4 HT4.out (by decide) (by decide)
  unfold plV at hi
  have HI := Lib.hid hi
  clear hi
  go_wp2_with fail
  refine HI.out.mono ?_
  rintro e w5 ⟨rfl, hb⟩
  have HB5 := Lib.hid ((HB4.out.trans (hb.mono hg4)).alloc (Nat.le_trans hg4 hb.size) (.cells #[.int .i64 1, .int .i64 3] 24))
  clear hb
  have hz := (Sep.nil w5.heap.size w5).blkNew (Nat.le_refl _) #[.int .i64 1, .int .i64 3] 24
  have HZ := Lib.hid hz
  clear hz HI
  go_wp2_with fail
  refine (HSAME.out _ (HB0.out.trans HB5.out)).mono ?_
  rintro e w6 ⟨rfl, hb⟩
  have hz := HZ.out.kept hb
  have z0 := (Sep.blkAt (A := []) hz (j := 0) rfl).1
  have z1 := (Sep.blkAt (A := []) hz (j := 1) rfl).1
  have HB6 := Lib.hid (HB5.out.trans (hb.mono (Nat.le_trans hgw HB5.out.size)))
  clear hz hb
  go_wp2
  go_ret
  exact ⟨rfl, HB6.out⟩

/-- What one step does to the table. -/
def natStep (low many : Int) (M : NatM) (xs : List Int) : NatM := match xs with
  | [a, b] => (natOut low many M (a, b)).1
  | [q] => (natDrop M q).1
  | _ => M
set_option maxHeartbeats 2000000 in
theorem lent_any (B g : Nat) (low many : Int) (M : NatM) (F : List Ent) (ao : Option Addr) (ac : Nat) (rs : List Stp) (w : World) (h : NatT B w g low many M F) (hB : B ≤ w.heap.size) (hA : RowSl B w ao 1 (rs.map stpC)) (hr : StpsOk B w rs) (hl : rs.length ≤ 9223372036854775807) (hgood : ∀ r ∈ rs, ∀ x ∈ r.2.2, -9223372036854775808 ≤ x ∧ x ≤ 9223372036854775807) :
    Calls Tryd.prog 11 #[.pointer (some ⟨g, 0, none⟩), .slice ao rs.length ac] w fun e w' => e = .returned (.tuple #[]) ∧ (∃ M', NatT B w' g low many M' F) ∧ Below B w w' := by
  have HA := Lib.hid hA
  have HR := Lib.hid hr
  have HT0 := Lib.hid h
  have HGD := Lib.hid hgood
  clear hA hr h hgood
  go_enter Tryd.func11, Tryd.ntmps11
  go_wp2
  go_loopw [4] (fun iv wr => ∃ (k : Nat) (M' : NatM), k ≤ rs.length ∧ iv = .int .i64 k ∧ NatT B wr g low many M' F ∧ Below B w wr) (fun iv _ => rs.length - (intOf iv).toNat)
  case atStart => exact ⟨0, M, Nat.zero_le _, rfl, HT0.out, Below.refl _ _⟩
  case round =>
    obtain ⟨k, M', hk, rfl, ht, hbel⟩ := hrel
    have HT1 := Lib.hid ht
    have HB1 := Lib.hid hbel
    clear ht hbel HT0
    obtain ⟨w1, hw1⟩ : ∃ w1, w1 = wr := ⟨_, rfl⟩
    obtain rfl := hw1
    have hg1 : B ≤ w1.heap.size := Nat.le_trans hB HB1.out.size
    by_cases hlt : k < rs.length
    · have hki : (k : Int) < (rs.length : Int) := by omega
      have hk0 : (0 : Int) ≤ (k : Int) := by omega
      by_cases h60 : k < 60
      · have hd60 : decide ((k : Int) < 60) = true := decide_eq_true (by omega)
        obtain ⟨⟨ra, rc, xs⟩, hrk⟩ : ∃ r, rs[k]? = some r := ⟨_, List.getElem?_eq_getElem hlt⟩
        have hA1 := HA.out.below HB1.out
        obtain ⟨b0, off0, rfl, hbb, c0⟩ := rows_at hA1 hrk
        obtain ⟨hi, hrl, hrm⟩ := HR.out _ (List.mem_iff_getElem?.2 ⟨k, hrk⟩)
        have hgx := HGD.out _ (List.mem_iff_getElem?.2 ⟨k, hrk⟩)
        simp only at hi hrl hrm c0 hgx
        have hc0 : ∀ w', Below B w1 w' → w'.cell? ⟨b0, off0 + k, none⟩ = some (.slice ra xs.length rc) := fun w' h => (h.cell (p := ⟨b0, off0 + k, none⟩) hbb).trans c0
        have HC0 := Lib.hid hc0
        have HI := Lib.hid hi
        clear hi hrk hrl hrm hA1 hc0
        by_cases h2 : xs.length = 2
        · obtain ⟨a, b, rfl⟩ : ∃ a b, xs = [a, b] := by
            match xs, h2 with
            | [a, b], _ => exact ⟨a, b, rfl⟩
          have hl2 : (((([a, b] : List Int).length : Nat) : Int) == 2) = true := rfl
          obtain ⟨bl, ol, rfl, hbl, r0⟩ := HI.out 0 a rfl
          obtain ⟨_, _, he, _, r1⟩ := HI.out 1 b rfl
          cases he
          have hcl : ∀ w', Below B w w' → w'.cell? ⟨bl, ol, none⟩ = some (.int .i64 a) ∧ w'.cell? ⟨bl, ol + 1, none⟩ = some (.int .i64 b) := fun w' h =>
            ⟨(h.cell (p := ⟨bl, ol, none⟩) hbl).trans r0, (h.cell (p := ⟨bl, ol + 1, none⟩) hbl).trans r1⟩
          have HCL := Lib.hid hcl
          clear hcl r0 r1 hbl h2
          have hn := natOut_any B g low many M' F (a, b) w1.drew (by obtain ⟨h1, mp, mq, e1, c1, e2, c2, m1, m2, hs⟩ := HT1.out; exact ⟨h1, mp, mq, e1, c1, e2, c2, m1, m2, hs.drew⟩) hg1
          unfold plV at hn
          obtain ⟨M2, hM2⟩ : ∃ M2, M2 = natOut low many M' (a, b) := ⟨_, rfl⟩
          rw [← hM2] at hn
          have HN := Lib.hid hn
          have HK0 := Lib.hid (And.intro (show w1.drew.cell? ⟨b0, off0 + k, none⟩ = some (.slice (some ⟨bl, ol, none⟩) 2 rc) from c0) (HCL.out _ HB1.out.drew))
          clear hn hM2
          go_wp2_with fail
          go_region_held3 (fun w' => w'.cell? ⟨b0, off0 + k, none⟩ = some (.slice (some ⟨bl, ol, none⟩) 2 rc) ∧ w'.cell? ⟨bl, ol, none⟩ = some (.int .i64 a) ∧ w'.cell? ⟨bl, ol + 1, none⟩ = some (.int .i64 b)) (first | exact HK1.out | exact HK0.out) (first
            | (go_at_call 12; refine HN.out.mono ?_; rintro e w2 ⟨rfl, ht, hb⟩; have HT2 := Lib.hid ht; have HB2 := Lib.hid (HB1.out.drew.trans hb); have HK1 := Lib.hid (And.intro (HC0.out _ ((Below.refl B w1).drew.trans hb)) (HCL.out _ HB2.out)); clear ht hb)
            | fail)
          have c2 := HK1.out.1
          clear HK0 HK1 HN HT1 HB1 hg1 c0
          go_wp2
          go_roundw
          case rel => exact ⟨k + 1, _, by omega, by go_num, HT2.out, HB2.out⟩
          case measure => simp [intOf]; omega
        · have hne : ((xs.length : Int) == 2) = false := beq_eq_false_iff_ne.2 (by omega)
          have hne2 : (xs.length == 2) = false := by simp [h2]
          clear h2
          by_cases h1 : xs.length = 1
          · obtain ⟨q, rfl⟩ : ∃ q, xs = [q] := List.length_eq_one_iff.1 h1
            have hl1 : (((([q] : List Int).length : Nat) : Int) == 1) = true := rfl
            obtain ⟨bl, ol, rfl, hbl, r0⟩ := HI.out 0 q rfl
            have r1 : w1.cell? ⟨bl, ol, none⟩ = some (.int .i64 q) := (HB1.out.cell (p := ⟨bl, ol, none⟩) hbl).trans r0
            have hqb := hgx q (by simp)
            clear r0 hbl h1
            go_wp2_with fail
            refine (natDrop_any B g low many M' F q w1 HT1.out hg1 hqb).mono ?_
            rintro e w2 ⟨rfl, ht, hb⟩
            have HT2 := Lib.hid ht
            have HB2 := Lib.hid (HB1.out.trans hb)
            clear ht hb r1 c0 HT1 HB1 hg1
            go_wp2
            go_roundw
            case rel => exact ⟨k + 1, _, by omega, by go_num, HT2.out, HB2.out⟩
            case measure => simp [intOf]; omega
          · have hn1 : ((xs.length : Int) == 1) = false := beq_eq_false_iff_ne.2 (by omega)
            have hn2 : (xs.length == 1) = false := by simp [h1]
            clear h1
            go_wp2
            go_roundw
            case rel => exact ⟨k + 1, _, by omega, by go_num, HT1.out, HB1.out⟩
            case measure => simp [intOf]; omega
      · have hd60 : decide ((k : Int) < 60) = false := decide_eq_false (by omega)
        have hd61 : decide (k < 60) = false := decide_eq_false h60
        clear h60
        go_wp2
        go_end0
        exact ⟨rfl, ⟨_, HT1.out⟩, HB1.out⟩
    · have hki : decide ((k : Int) < (rs.length : Int)) = false := decide_eq_false (by omega)
      have hki2 : decide (k < rs.length) = false := decide_eq_false hlt
      clear hlt
      go_wp2
      go_end0
      exact ⟨rfl, ⟨_, HT1.out⟩, HB1.out⟩
end Go.Proofs.YtnmddgjgmdegoaaDoor
