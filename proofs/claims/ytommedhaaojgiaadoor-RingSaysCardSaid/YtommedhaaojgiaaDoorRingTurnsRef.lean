/- ferryhytheref4.Ring: who sends, in order, as the document says. -/
import Derived.Test.YtommedhaaojgiaaDoorRows
import Derived.Test.YtommedhaaojgiaaDoorRingRef
import Derived.Test.YtommedhaaojgiaaDoorElem
import Derived.Deep.LoopGhost
import Derived.BigQuiet
namespace Go.Proofs.YtommedhaaojgiaaDoor
open Go.RowKit
set_option linter.unusedVariables false

set_option maxRecDepth 100000 in
set_option maxHeartbeats 1000000 in
theorem ringRef_ok (ao : Option Addr) (len ac B : Nat) (ws : List Int) (h : Int) (w : World) (hA : IntSl B w ao ws) (hlen : len = ws.length) (hB : B ≤ w.heap.size) (hok : RingOk ws h) :
    Calls Tryd.prog 27 #[.slice ao len ac, .int .i64 h] w fun e w' =>
      ∃ va, e = .returned va ∧ Sep w.heap.size w' [Ent.ints 3 va (ringOut ws h.toNat)] ∧ Below w.heap.size w w' := by
  subst hlen
  obtain ⟨h0, h8, hall, hlo, hhi⟩ := hok
  obtain ⟨m, rfl⟩ := Int.eq_ofNat_of_zero_le (by omega : 0 ≤ h)
  rw [Int.toNat_natCast]
  have HA := Lib.hid hA; clear hA
  have HR := Lib.hid hall; clear hall
  have hm1 : 1 ≤ m := by omega
  have hm2 : m ≤ 20 := by omega
  clear hlo hhi
  have HS0 := Lib.hid ((Sep.nil w.heap.size w).intsNil 3)
  have hcell : ∀ (i : Nat) (x : Int), ws[i]? = some x → ∃ b off, ao = some ⟨b, off, none⟩ ∧ ∀ w', Below w.heap.size w w' → w'.cell? ⟨b, off + i, none⟩ = some (.int .i64 x) := fun i x hx => by
    obtain ⟨b, off, h1, h2, h3⟩ := HA.out i x hx
    exact ⟨b, off, h1, fun w' hb => (hb.cell (p := ⟨b, off + i, none⟩) (by simp only; omega)).trans h3⟩
  have HC := Lib.hid hcell; clear hcell
  go_enter Tryd.func27, Tryd.ntmps27
  go_wp2
  go_loopw [5, 6] (fun ov rv wr => ∃ (r : Nat) (vo : Value), r ≤ 20 ∧ vo = ov ∧ rv = .int .i64 r ∧ Sep w.heap.size wr [Ent.ints 3 vo (ringNow ws m r 0)] ∧ Below w.heap.size w wr) (fun _ rv _ => 20 - (intOf rv).toNat)
  case atStart => exact ⟨0, _, Nat.zero_le _, rfl, rfl, HS0.out, Below.refl _ _⟩
  case round =>
    obtain ⟨r, vo, hr, rfl, rfl, hsep, hbel⟩ := hrel
    clear HS0
    have HS1 := Lib.hid hsep; clear hsep
    have HB1 := Lib.hid hbel; clear hbel
    by_cases hr20 : r < 20
    · have hrd : decide ((r : Int) < 20) = true := decide_eq_true (by omega)
      obtain ⟨q, hq⟩ : ∃ q, r * m = q := ⟨_, rfl⟩
      have hqb : q ≤ 380 := by rw [← hq]; exact Nat.le_trans (Nat.mul_le_mul (by omega : r ≤ 19) hm2) (by decide)
      have hqi : (r : Int) * (m : Int) = (q : Int) := by rw [← hq, Int.natCast_mul]
      have HQ := Lib.hid hq; clear hq
      go_wp2
      go_loopw [5, 7] (fun ov av wr => ∃ (a : Nat) (vo : Value), a ≤ ws.length ∧ vo = ov ∧ av = .int .i64 a ∧ Sep w.heap.size wr [Ent.ints 3 vo (ringNow ws m r a)] ∧ Below w.heap.size w wr) (fun _ av _ => ws.length - (intOf av).toNat)
      case atStart => exact ⟨0, _, Nat.zero_le _, rfl, rfl, HS1.out, HB1.out⟩
      case round =>
        obtain ⟨a, vo, ha, rfl, rfl, hsep, hbel⟩ := hrel
        clear HS1 HB1
        have HS2 := Lib.hid hsep; clear hsep
        have HB2 := Lib.hid hbel; clear hbel
        by_cases hlt : a < ws.length
        · have hai : (a : Int) < (ws.length : Int) := by omega
          have ha0 : (0 : Int) ≤ (a : Int) := by omega
          obtain ⟨x, hx⟩ : ∃ x, ws[a]? = some x := ⟨_, List.getElem?_eq_getElem hlt⟩
          obtain ⟨b, off, rfl, hca⟩ := HC.out a x hx
          have HCA := Lib.hid hca; clear hca
          obtain ⟨hx0, hx20⟩ := HR.out x (List.mem_iff_getElem?.2 ⟨a, hx⟩)
          have HX := Lib.hid hx; clear hx
          have hnl : (ringNow ws m r a).length ≤ 320 := ringNow_len HR.out h8 ha
          have HNL := Lib.hid hnl; clear hnl
          go_wp2
          go_loopw [5, 8] (fun ov kv wr => ∃ (kk : Nat) (vo : Value), q ≤ kk ∧ kk ≤ q + m ∧ (kk = q ∨ (kk : Int) ≤ x) ∧ vo = ov ∧ kv = .int .i64 kk ∧ Sep w.heap.size wr [Ent.ints 3 vo (ringNow ws m r a ++ List.replicate (kk - q) (a : Int))] ∧ Below w.heap.size w wr) (fun _ kv _ => q + m - (intOf kv).toNat)
          case atStart => exact ⟨q, _, Nat.le_refl _, by omega, .inl rfl, rfl, rfl, by rw [Nat.sub_self, List.replicate_zero, List.append_nil]; exact HS2.out, HB2.out⟩
          case round =>
            obtain ⟨kk, vo, hk1, hk2, hk3, rfl, rfl, hsep, hbel⟩ := hrel
            clear HS2 HB2
            obtain ⟨w3, hw3⟩ : ∃ w3, w3 = wr := ⟨_, rfl⟩
            obtain rfl := hw3
            have HB3 := Lib.hid hbel; clear hbel
            have hg3 : w.heap.size ≤ w3.heap.size := HB3.out.size
            have c3 := HCA.out _ HB3.out
            by_cases hkm : kk < q + m
            · have hkd : decide ((kk : Int) < (q : Int) + (m : Int)) = true := decide_eq_true (by omega)
              by_cases hkx : (kk : Int) < x
              · have hkd2 : decide ((kk : Int) < x) = true := decide_eq_true hkx
                have hll : (ringNow ws m r a ++ List.replicate (kk - q) (a : Int)).length ≤ 1000000000 := by
                  have := HNL.out
                  rw [List.length_append, List.length_replicate]; omega
                have HLL := Lib.hid hll; clear hll
                have HS3 := Lib.hid hsep; clear hsep
                go_wp2_with (at_builtin; refine wpList_append_int rfl (.tmp 39) (.tmp 41) rfl elemInt8 (A := []) rfl HS3.out hg3 rfl HLL.out ?_)
                intro v' w4 hs hb
                have HS4 := Lib.hid hs
                have HB4 := Lib.hid (HB3.out.trans hb)
                clear hs hb c3
                go_wp2
                go_roundw
                case rel =>
                  refine ⟨kk + 1, _, by omega, by omega, .inr (by omega), rfl, by go_num, ?_, HB4.out⟩
                  have := HS4.out
                  rw [← List.replicate_succ', show kk - q + 1 = kk + 1 - q by omega] at this
                  exact this
                case measure => simp [intOf]; omega
              · have hkd2 : decide ((kk : Int) < x) = false := decide_eq_false hkx
                have hkq : kk - q = amt (ringSrv ws m) r a := by
                  have hw := wOf_get HX.out
                  have h1 := HQ.out
                  unfold amt ringSrv
                  rw [hw, Nat.add_mul, h1, Nat.one_mul]
                  omega
                rw [hkq, ← ringNow_turn] at hsep
                have HS5 := Lib.hid hsep; clear hsep hkq
                go_wp2
                go_roundw
                case rel => exact ⟨a + 1, _, by omega, rfl, by go_num, HS5.out, HB3.out⟩
                case measure => simp [intOf]; omega
            · have hkd : decide ((kk : Int) < (q : Int) + (m : Int)) = false := decide_eq_false (by omega)
              have hkq : kk - q = amt (ringSrv ws m) r a := by
                have hw := wOf_get HX.out
                have h1 := HQ.out
                unfold amt ringSrv
                rw [hw, Nat.add_mul, h1, Nat.one_mul]
                omega
              rw [hkq, ← ringNow_turn] at hsep
              have HS5 := Lib.hid hsep; clear hsep hkq
              go_wp2
              go_roundw
              case rel => exact ⟨a + 1, _, by omega, rfl, by go_num, HS5.out, HB3.out⟩
              case measure => simp [intOf]; omega
        · obtain rfl : a = ws.length := by omega
          have hai : decide ((ws.length : Int) < (ws.length : Int)) = false := by simp
          have hs := HS2.out
          rw [ringNow_wrap] at hs
          have HS3 := Lib.hid hs; clear hs
          go_wp2
          go_roundw
          case rel => exact ⟨r + 1, _, by omega, rfl, by go_num, HS3.out, HB2.out⟩
          case measure => simp [intOf]; omega
    · have hrd : decide ((r : Int) < 20) = false := decide_eq_false (by omega)
      obtain rfl : r = 20 := by omega
      have hs := HS1.out
      rw [ring_twenty HR.out hm1] at hs
      have HS3 := Lib.hid hs; clear hs
      go_wp2
      go_ret
      exact ⟨_, rfl, HS3.out, HB1.out⟩
end Go.Proofs.YtommedhaaojgiaaDoor
