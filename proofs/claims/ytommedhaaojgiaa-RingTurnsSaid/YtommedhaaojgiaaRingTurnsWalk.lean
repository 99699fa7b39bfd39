/- RingTurns returns true: who has not sent yet is next at last. -/
import Derived.Test.YtommedhaaojgiaaRingFact
import Derived.Test.YtommedhaaojgiaaSum
import Derived.Test.YtommedhaaojgiaaHas1
namespace Go.Proofs.Ytommedhaaojgiaa
open Go.RowKit
set_option linter.unusedVariables false

set_option maxHeartbeats 1000000 in
theorem ringTurns_walk (ao : Option Addr) (ac : Nat) (ws : List Int) (h : Int) (w : World) (hA : IntSl w.heap.size w ao ws) (hac : ws.length ≤ ac) (hmax : ac ≤ maxLen) (_ : ∀ x ∈ ws, -9223372036854775808 ≤ x ∧ x ≤ 9223372036854775807) (_ : -9223372036854775808 ≤ h ∧ h ≤ 9223372036854775807) :
    Calls Try.prog 10 #[.slice ao ws.length ac, .int .i64 h] w fun e w' => e = .returned (.bool true) ∧ Below w.heap.size w w' := by
  unfold maxLen at hmax
  have HA := Lib.hid hA; clear hA
  rcases ring_cases ws h with hok | ⟨c, hbad⟩
  · have HOK := Lib.hid hok
    obtain ⟨h0, h8, hall, hlo, hhi⟩ := hok
    obtain ⟨m, rfl⟩ := Int.eq_ofNat_of_zero_le (by omega : 0 ≤ h)
    obtain ⟨l, hl⟩ : ∃ l, l = ringOut ws m := ⟨_, rfl⟩
    have hll : l.length ≤ 320 := by rw [hl]; exact ringOut_len hall h8
    have htot : ((l.length : Int) == ws.sum) = true := by rw [hl, ring_total hall (by omega)]; simp
    have HTOT := Lib.hid htot; clear htot
    have hfirst : ∀ i, i < ws.length → 0 < wOf ws i → ¬ (i : Int) ∈ l.take (psum (fun k => min (wOf ws k) m) i) ∧ l[psum (fun k => min (wOf ws k) m) i]? = some (i : Int) := fun i hi hp => by rw [hl]; exact ring_first hi (by omega) hp
    have HFI := Lib.hid hfirst; clear hfirst
    have HL := Lib.hid hl; clear hl
    have HR := Lib.hid hall; clear hall
    go_enter Try.func10, Try.ntmps10
    go_wp2_with fail
    refine (ringFact_any _).mono ?_
    rintro e w1 ⟨rfl, hb⟩
    have HB := Lib.hid hb; clear hb
    have HA1 := Lib.hid (HA.out.below HB.out)
    go_wp2_with fail
    refine (ringRun_ok _ _ _ _ ws m _ HA1.out rfl HB.out.size HOK.out).mono ?_
    rintro e w2 ⟨va, rfl, hs, hb⟩
    rw [Int.toNat_natCast, ← HL.out] at hs
    have HB2 := Lib.hid (HB.out.trans (hb.mono HB.out.size)); clear hb
    have HA2 := Lib.hid (HA.out.below HB2.out)
    obtain ⟨ao1, c1, rfl, hc1, _⟩ := hs.intsShape (A := []) (C := [])
    have HX := Lib.hid (hs.intSl (A := []) (C := [])); clear hs
    go_wp2
    go_loop [8] (fun i => ∃ k : Nat, k ≤ ws.length ∧ i = .int .i64 k) (fun i => ws.length - (intOf i).toNat)
    case atStart => exact ⟨0, Nat.zero_le _, rfl⟩
    case round =>
      obtain ⟨k, hk, rfl⟩ := hrel
      by_cases hlt : k < ws.length
      · obtain ⟨x, hx⟩ : ∃ x, ws[k]? = some x := ⟨_, List.getElem?_eq_getElem hlt⟩
        obtain ⟨b, off, rfl, _, cx⟩ := HA2.out k x hx
        have hxb := HR.out x (List.mem_iff_getElem?.2 ⟨k, hx⟩)
        have hxw := wOf_get hx
        by_cases hz : x = 0
        · have hz0 : (x == 0) = true := by simp [hz]
          have Hz := Lib.hid hz; clear hz
          clear hx hxw
          go_wp2
          go_round
          case rel => exact ⟨k + 1, by omega, by go_num⟩
          case measure => simp [intOf]; omega
        · have hz0 : (x == 0) = false := by simp [hz]
          obtain ⟨f1, f2⟩ := HFI.out k hlt (by omega)
          have hfl := (List.getElem?_eq_some_iff.1 f2).1
          clear hx hxw
          have F1 := Lib.hid f1; clear f1
          have F2 := Lib.hid f2; clear f2
          go_wp2
          go_loop [9, 10] (fun s j => ∃ (i p : Nat), i ≤ k ∧ j = .int .i64 i ∧ s = .int .i64 p ∧ p ≤ 20 * i ∧ Hid (p = psum (fun k => min (wOf ws k) m) i)) (fun _ j => k - (intOf j).toNat)
          case atStart => exact ⟨0, 0, Nat.zero_le _, rfl, rfl, by omega, rfl⟩
          case round =>
            obtain ⟨i, p, hi, rfl, rfl, hp, hps⟩ := hrel
            by_cases hik : i < k
            · obtain ⟨y, hy⟩ : ∃ y, ws[i]? = some y := ⟨_, List.getElem?_eq_getElem (by omega)⟩
              obtain ⟨b', off', he, _, cy⟩ := HA2.out i y hy
              simp only [Option.some.injEq, Addr.mk.injEq, and_true] at he
              obtain ⟨rfl, rfl⟩ := he
              have hyb := HR.out y (List.mem_iff_getElem?.2 ⟨i, hy⟩)
              have hyw := wOf_get hy
              have hstep : psum (fun k => min (wOf ws k) m) (i + 1) = p + min (wOf ws i) m := by rw [psum, ← hps.out]
              rw [hyw] at hstep
              have HST := Lib.hid hstep; clear hstep hyw hy
              by_cases hym : y < (m : Int)
              · go_wp2
                go_round
                case rel =>
                  refine ⟨i + 1, p + y.toNat, by omega, by go_num, ?_, by omega, ?_⟩
                  · congr 1; omega
                  · have := HST.out
                    simp only [Hid]; omega
                case measure => simp [intOf]; omega
              · go_wp2
                go_round
                case rel =>
                  refine ⟨i + 1, p + m, by omega, by go_num, ?_, by omega, ?_⟩
                  · congr 1
                  · have := HST.out
                    simp only [Hid]; omega
                case measure => simp [intOf]; omega
            · obtain rfl : i = k := by omega
              have hf1 := F1.out
              have hf2 := F2.out
              rw [← hps.out] at hf1 hf2 hfl
              obtain ⟨bl, ol, rfl, _, cl⟩ := HX.out p i hf2
              have hge : decide ((l.length : Int) ≤ (p : Int)) = false := by simp; omega
              have hne : ((i : Int) != (i : Int)) = false := by simp
              have G1 := Lib.hid hf1; clear hf1 hf2
              have HT := Lib.hid (HX.out.take (k := p))
              go_wp2_with (go_at_call 15; refine (has1_any _ _ _ _ (l.take p) i false _ HT.out (by simp; omega) (by simp; omega) (by have := G1.out; simpa using this)).mono ?_; rintro e w' ⟨rfl, rfl⟩)
              go_round
              case rel => exact ⟨i + 1, by omega, by go_num⟩
              case measure => simp [intOf]; omega
      · go_wp2_with (go_at_call 29; refine (sum_any _ _ _ _ ws _ HA2.out rfl (by omega) (fun x hx => by have := HR.out x hx; omega)).mono ?_; rintro e w' ⟨rfl, rfl⟩)
        go_ret
        exact ⟨ret_bool HTOT.out, HB2.out⟩
  · have HBAD := Lib.hid hbad; clear hbad
    go_enter Try.func10, Try.ntmps10
    go_wp2_with fail
    refine (ringFact_any _).mono ?_
    rintro e w1 ⟨rfl, hb⟩
    have HB := Lib.hid hb; clear hb
    have HA1 := Lib.hid (HA.out.below HB.out)
    go_wp2_with fail
    refine (ringRun_err _ _ _ _ ws h c _ HA1.out rfl (by omega) HBAD.out).mono ?_
    rintro e w' ⟨rfl, rfl⟩
    go_wp2
    go_ret
    exact ⟨rfl, HB.out⟩
end Go.Proofs.Ytommedhaaojgiaa
