/- RingHold returns true: who may hold the token long sends all at once. -/
import Derived.Test.YtommedhaaojgiaaRingFact
namespace Go.Proofs.Ytommedhaaojgiaa
open Go.RowKit
set_option linter.unusedVariables false

theorem part_len_le {ws : List Int} (hw : ∀ x ∈ ws, 0 ≤ x ∧ x ≤ 20) (hn : ws.length ≤ 8) {k : Nat} (hk : k ≤ ws.length) : (part (wOf ws) k).length ≤ 160 := by
  rw [part_len]
  have := psum_le (wOf ws) 20 (fun i => by
    unfold wOf
    rw [List.getD_eq_getElem?_getD]
    cases hx : ws[i]? with
    | none => simp
    | some x => have := hw x (List.mem_iff_getElem?.2 ⟨i, hx⟩); simp; omega) k
  omega

set_option maxHeartbeats 1000000 in
theorem ringHold_walk (ao : Option Addr) (ac : Nat) (ws : List Int) (h : Int) (w : World) (hA : IntSl w.heap.size w ao ws) (hac : ws.length ≤ ac) (hmax : ac ≤ maxLen) (_ : ∀ x ∈ ws, -9223372036854775808 ≤ x ∧ x ≤ 9223372036854775807) (_ : -9223372036854775808 ≤ h ∧ h ≤ 9223372036854775807) :
    Calls Try.prog 11 #[.slice ao ws.length ac, .int .i64 h] w fun e w' => e = .returned (.bool true) ∧ Below w.heap.size w w' := by
  unfold maxLen at hmax
  have HA := Lib.hid hA; clear hA
  rcases ring_cases ws h with hok | ⟨c, hbad⟩
  · have HOK := Lib.hid hok
    obtain ⟨h0, h8, hall, hlo, hhi⟩ := hok
    obtain ⟨m, rfl⟩ := Int.eq_ofNat_of_zero_le (by omega : 0 ≤ h)
    obtain ⟨l, hl⟩ : ∃ l, l = ringOut ws m := ⟨_, rfl⟩
    have hll : l.length ≤ 320 := by rw [hl]; exact ringOut_len hall h8
    have hone : (∀ i, wOf ws i ≤ m) → l = part (wOf ws) ws.length ∧ gapOf l = 0 := fun hw => by
      have h1 : l = part (wOf ws) ws.length := by rw [hl]; exact ring_one hw
      exact ⟨h1, by rw [h1]; exact (gap_part _ _).1⟩
    have HONE := Lib.hid hone; clear hone
    have HL := Lib.hid hl; clear hl
    have HR := Lib.hid hall; clear hall
    obtain ⟨gp, hgp⟩ : ∃ gp, gp = gapOf l := ⟨_, rfl⟩
    have HGP := Lib.hid hgp; clear hgp
    go_enter Try.func11, Try.ntmps11
    go_wp2_with fail
    refine (ringFact_any _).mono ?_
    rintro e w1 ⟨rfl, hb⟩
    have HB := Lib.hid hb; clear hb
    have HA1 := Lib.hid (HA.out.below HB.out)
    go_wp2_with fail
    refine (ringRun_ok _ _ _ _ ws m _ HA1.out rfl HB.out.size HOK.out).mono ?_
    rintro e w2 ⟨va, rfl, hs, hb⟩
    rw [Int.toNat_natCast, ← HL.out] at hs
    have HB2 := Lib.hid (HB.out.trans (hb.mono HB.out.size)); clear hb
    have HA2 := Lib.hid (HA.out.below HB2.out)
    obtain ⟨ao1, c1, rfl, hc1, _⟩ := hs.intsShape (A := []) (C := [])
    have HX := Lib.hid (hs.intSl (A := []) (C := [])); clear hs
    go_wp2_with fail
    refine (ringGap_ok _ _ _ _ ws m _ HA2.out rfl HB2.out.size HOK.out).mono ?_
    rintro e w3 ⟨rfl, hb⟩
    rw [Int.toNat_natCast, ← HL.out, ← HGP.out]
    have HX3 := Lib.hid (HX.out.below hb)
    have hw23 := hb.size
    have HB3 := Lib.hid (HB2.out.trans (hb.mono HB2.out.size)); clear hb
    have HA3 := Lib.hid (HA.out.below HB3.out)
    have HX4 := Lib.hid (HX3.out.mono hw23)
    have HS3 := Lib.hid (Sep.nil w3.heap.size w3)
    go_wp2
    go_loopw [10, 11] (fun v i wr => ∃ k : Nat, k ≤ ws.length ∧ i = .int .i64 k ∧ Sep w3.heap.size wr [Ent.ints 3 v (part (wOf ws) k)] ∧ Below w3.heap.size w3 wr ∧ Hid (∀ j, j < k → wOf ws j ≤ m)) (fun _ i _ => ws.length - (intOf i).toNat)
    case atStart => exact ⟨0, Nat.zero_le _, rfl, HS3.out.intsNil _, Below.refl _ _, fun j hj => by omega⟩
    case round =>
      obtain ⟨k, hk, rfl, hsep, hbel, hles⟩ := hrel
      have hHA4 := HA3.out.below (hbel.mono HB3.out.size)
      have HA4 := Lib.hid hHA4; clear hHA4
      by_cases hlt : k < ws.length
      · obtain ⟨x, hx⟩ : ∃ x, ws[k]? = some x := ⟨_, List.getElem?_eq_getElem hlt⟩
        obtain ⟨b, off, rfl, hbb, cx⟩ := HA4.out k x hx
        have hxb := HR.out x (List.mem_iff_getElem?.2 ⟨k, hx⟩)
        have hxw := wOf_get hx
        have HXW := Lib.hid hxw; have HX0 := Lib.hid hx; clear hx hxw
        have hpl := part_len_le HR.out h8 hk
        by_cases hxm : (m : Int) < x
        · have HS := Lib.hid hsep; clear hsep
          have HBL := Lib.hid hbel; clear hbel
          go_wp2
          go_ret
          exact ⟨rfl, HB3.out.trans (HBL.out.mono HB3.out.size)⟩
        · obtain ⟨y, rfl⟩ := Int.eq_ofNat_of_zero_le hxb.1
          have HS := Lib.hid hsep; clear hsep
          have HBL := Lib.hid hbel; clear hbel
          go_wp2
          obtain ⟨wo, hwo⟩ : ∃ wo : World, wo = wr := ⟨_, rfl⟩
          go_loopw [10, 12] (fun v i wr => ∃ j : Nat, j ≤ y ∧ i = .int .i64 j ∧ Sep w3.heap.size wr [Ent.ints 3 v (part (wOf ws) k ++ List.replicate j (k : Int))] ∧ Below w3.heap.size w3 wr) (fun _ i _ => y - (intOf i).toNat)
          case atStart => exact ⟨0, Nat.zero_le _, rfl, by simpa using HS.out, HBL.out⟩
          case round =>
            obtain ⟨j, hj, rfl, hsep, hbel⟩ := hrel
            obtain ⟨b', off', he, _, cy⟩ := (HA3.out.below (hbel.mono HB3.out.size)) k (y : Int) HX0.out
            simp only [Option.some.injEq, Addr.mk.injEq, and_true] at he
            obtain ⟨rfl, rfl⟩ := he
            obtain ⟨T, hT⟩ : ∃ T, T = part (wOf ws) k ++ List.replicate j (k : Int) := ⟨_, rfl⟩
            have hTl : T.length ≤ 180 := by rw [hT, List.length_append, List.length_replicate]; omega
            rw [← hT] at hsep
            have HT := Lib.hid hT; clear hT
            obtain ⟨ao2, c2, rfl, hc2, _⟩ := hsep.intsShape (A := []) (C := [])
            have HS5 := Lib.hid hsep; clear hsep
            have HB5 := Lib.hid hbel; clear hbel
            by_cases hjy : j < y
            · have hd1 : decide ((j : Int) < (y : Int)) = true := by simp; omega
              go_wp2_with (at_builtin; refine wpList_append_int rfl (.tmp 61) (.tmp 63) rfl elemInt8 (A := []) rfl HS5.out HB5.out.size rfl (by omega) ?_)
              intro v' w5 hs5 hb5
              have HS6 := Lib.hid hs5; clear hs5
              have HB6 := Lib.hid (HB5.out.trans hb5); clear hb5
              go_wp2
              go_roundw
              case rel =>
                refine ⟨j + 1, by omega, by go_num, ?_, HB6.out⟩
                have := HS6.out
                rw [HT.out, List.append_assoc, ← List.replicate_succ'] at this
                exact this
              case measure => simp [intOf]; omega
            · obtain rfl : j = y := by omega
              have hout : T = part (wOf ws) (k + 1) := by rw [HT.out, part, HXW.out, Int.toNat_natCast]
              have HOUT := Lib.hid hout; clear hout
              have hd1 : decide ((j : Int) < (j : Int)) = false := by simp
              go_wp2
              go_roundw
              case rel =>
                have hs7 := HS5.out
                rw [HOUT.out] at hs7
                refine ⟨k + 1, by omega, by go_num, by rw [HOUT.out]; exact hs7, HB5.out, ?_⟩
                intro i hi
                rcases Nat.lt_or_ge i k with h1 | h1
                · exact hles.out i h1
                · obtain rfl : i = k := by omega
                  rw [HXW.out]; omega
              case measure => simp [intOf]; omega
      · have hkn : k = ws.length := by omega
        have hall2 : ∀ i, wOf ws i ≤ m := fun i => by
          rcases Nat.lt_or_ge i k with h1 | h1
          · exact hles.out i h1
          · have : wOf ws i = 0 := by
              unfold wOf
              rw [List.getD_eq_getElem?_getD, List.getElem?_eq_none (by omega)]; rfl
            omega
        obtain ⟨e1, e2⟩ := HONE.out hall2
        rw [hkn, ← e1] at hsep
        obtain ⟨ao2, c2, rfl, hc2, _⟩ := hsep.intsShape (A := []) (C := [])
        have hW := hsep.intSl (A := []) (C := [])
        have HW := Lib.hid hW; clear hW hsep
        have HX5 := Lib.hid (HX4.out.below hbel)
        have hg0 : gp = 0 := by rw [HGP.out, e2]
        have hg1 : ((gp : Int) == 0) = true := by simp [hg0]
        have HG := Lib.hid hg0; clear hg0
        have HE := Lib.hid e1; clear e1 e2 hall2
        have HBL := Lib.hid hbel; clear hbel
        have HKN := Lib.hid hkn; clear hkn
        go_wp2_with fail
        refine (ints_any _ _ _ _ _ _ _ _ l l true _ HX5.out HW.out rfl rfl (by omega) (by simp)).mono ?_
        rintro e w4 ⟨rfl, hd⟩
        have HB7 := Lib.hid (below_of_drew hd); clear hd
        go_wp2
        go_ret
        exact ⟨rfl, HB3.out.trans ((HBL.out.trans (HB7.out.mono HBL.out.size)).mono HB3.out.size)⟩
  · have HBAD := Lib.hid hbad; clear hbad
    go_enter Try.func11, Try.ntmps11
    go_wp2_with fail
    refine (ringFact_any _).mono ?_
    rintro e w1 ⟨rfl, hb⟩
    have HB := Lib.hid hb; clear hb
    have HA1 := Lib.hid (HA.out.below HB.out)
    go_wp2_with fail
    refine (ringRun_err _ _ _ _ ws h c _ HA1.out rfl (by omega) HBAD.out).mono ?_
    rintro e w' ⟨rfl, rfl⟩
    go_wp2_with fail
    refine (ringGap_err _ _ _ _ ws h c _ HA1.out rfl (by omega) HBAD.out).mono ?_
    rintro e w' ⟨rfl, rfl⟩
    go_wp2
    go_ret
    exact ⟨rfl, HB.out⟩
end Go.Proofs.Ytommedhaaojgiaa
