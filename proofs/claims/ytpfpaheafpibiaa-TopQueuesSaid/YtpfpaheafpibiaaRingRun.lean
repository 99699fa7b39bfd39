/- ring.Run: who sends, in order: what the call gives is what the plain text says. -/
import Derived.Test.YtpfpaheafpibiaaRows
import Derived.Test.YtpfpaheafpibiaaBase
import Derived.Test.YtpfpaheafpibiaaWithin
import Derived.Test.YtpfpaheafpibiaaAll
import Derived.Test.YtpfpaheafpibiaaRingPlain
import Derived.Deep.LoopGhost
import Derived.StillTailTactics
import Derived.Lib.SliceRun
import Derived.Test.YtpfpaheafpibiaaRow2
import Derived.Test.YtpfpaheafpibiaaClone
namespace Go.Proofs.Ytpfpaheafpibiaa
open Go.RowKit
set_option linter.unusedVariables false

/-- slices.Max of a slice with something in it. -/
theorem max_any (ao : Option Addr) (len ac B : Nat) (xs : List Int) (w : World) (hA : IntSl B w ao xs) (hlen : len = xs.length) (h0 : 0 < xs.length) (hl : xs.length ≤ 1000000) :
    Calls Try.prog 28 #[.slice ao len ac] w fun e w' => ∃ m, e = .returned (.int .i64 m) ∧ w = w' ∧ m ∈ xs ∧ ∀ x ∈ xs, x ≤ m := by
  subst hlen
  obtain ⟨x, hx⟩ : ∃ x, xs[0]? = some x := ⟨_, List.getElem?_eq_getElem h0⟩
  obtain ⟨b, off, rfl, hb, c0⟩ := hA 0 x hx
  simp only [Nat.add_zero] at c0
  have HX := Lib.hid hx; clear hx
  have HA := Lib.hid hA; clear hA
  have hd : decide ((xs.length : Int) < 1) = false := by simp; omega
  go_enter Try.func28, Try.ntmps28
  go_wp2
  go_loop [3, 4] (fun m i => ∃ (k : Nat) (y : Int), 1 ≤ k ∧ k ≤ xs.length ∧ i = .int .i64 k ∧ m = .int .i64 y ∧ Hid (y ∈ xs) ∧ Hid (∀ z ∈ xs.take k, z ≤ y)) (fun _ i => xs.length - (intOf i).toNat)
  case atStart =>
    refine ⟨1, x, Nat.le_refl _, h0, rfl, rfl, List.mem_iff_getElem?.2 ⟨0, HX.out⟩, ?_⟩
    intro z hz
    rw [List.take_add_one, HX.out] at hz
    simp at hz; subst hz; exact Int.le_refl _
  case round =>
    obtain ⟨k, y, hk1, hk, rfl, rfl, hmem, hle⟩ := hrel
    by_cases hlt : k < xs.length
    · obtain ⟨z, hz⟩ : ∃ z, xs[k]? = some z := ⟨_, List.getElem?_eq_getElem hlt⟩
      obtain ⟨b', o', he, _, c1⟩ := HA.out k z hz
      simp only [Option.some.injEq, Addr.mk.injEq, and_true] at he
      obtain ⟨rfl, rfl⟩ := he
      have Hz := Lib.hid hz; clear hz
      go_wp2
      go_round
      case rel =>
        refine ⟨k + 1, _, by omega, by omega, by go_num, rfl, ?_, ?_⟩
        · by_cases hyz : y ≤ z
          · rw [show (if y < z then z else y) = z by split <;> omega]; exact List.mem_iff_getElem?.2 ⟨k, Hz.out⟩
          · rw [if_neg (by omega)]; exact hmem
        · intro u hu
          rw [List.take_add_one, Hz.out] at hu
          simp at hu
          rcases hu with hu | rfl
          · have := hle.out u hu
            by_cases hyz : y < z
            · rw [if_pos hyz]; omega
            · rw [if_neg hyz]; omega
          · by_cases hyz : y < u
            · rw [if_pos hyz]; omega
            · rw [if_neg hyz]; omega
      case measure => simp [intOf]; omega
    · go_wp2
      go_ret
      refine ⟨_, rfl, rfl, hmem.out, ?_⟩
      have h1 := hle.out
      rwa [List.take_of_length_le (by omega)] at h1

/-- The arguments that Run takes. -/
structure RingOk (ws : List Int) (h : Int) : Prop where
  some : 0 < ws.length
  few : ws.length ≤ 8
  all : ∀ x ∈ ws, 0 ≤ x ∧ x ≤ 20
  low : 1 ≤ h
  high : h ≤ 20
/-- What is wrong. -/
def RingBad (ws : List Int) (h c : Int) : Prop :=
  (ws.length = 0 ∧ c = 5) ∨ (8 < ws.length ∧ c = 4) ∨ (0 < ws.length ∧ ws.length ≤ 8 ∧ ¬ (∀ x ∈ ws, 0 ≤ x ∧ x ≤ 20) ∧ c = 1) ∨
    (0 < ws.length ∧ ws.length ≤ 8 ∧ (∀ x ∈ ws, 0 ≤ x ∧ x ≤ 20) ∧ ¬ (1 ≤ h ∧ h ≤ 20) ∧ c = 1)
theorem ring_cases (ws : List Int) (h : Int) : RingOk ws h ∨ ∃ c, RingBad ws h c := by
  by_cases h0 : ws.length = 0
  · exact .inr ⟨5, .inl ⟨h0, rfl⟩⟩
  by_cases h1 : 8 < ws.length
  · exact .inr ⟨4, .inr (.inl ⟨h1, rfl⟩)⟩
  by_cases h2 : ∀ x ∈ ws, 0 ≤ x ∧ x ≤ 20
  · by_cases h3 : 1 ≤ h ∧ h ≤ 20
    · exact .inl ⟨by omega, by omega, h2, h3.1, h3.2⟩
    · exact .inr ⟨1, .inr (.inr (.inr ⟨by omega, by omega, h2, h3, rfl⟩))⟩
  · exact .inr ⟨1, .inr (.inr (.inl ⟨by omega, by omega, h2, rfl⟩))⟩

theorem ringCheck_ok (ao : Option Addr) (len ac B : Nat) (ws : List Int) (w : World) (hA : IntSl B w ao ws) (hlen : len = ws.length) (h0 : 0 < ws.length) (h8 : ws.length ≤ 8) (hall : ∀ x ∈ ws, 0 ≤ x ∧ x ≤ 20) :
    Calls Try.prog 26 #[.slice ao len ac] w fun e w' => e = .returned .nilIface ∧ w = w' := by
  subst hlen
  have HA := Lib.hid hA; clear hA
  have HR := Lib.hid hall; clear hall
  have hd0 : ((ws.length : Int) == 0) = false := by simp; intro e; simp [e] at h0
  have hd1 : decide ((8 : Int) < (ws.length : Int)) = false := by simp; omega
  go_enter Try.func26, Try.ntmps26
  go_wp2_with (go_at_call 29; refine (all_any _ _ _ _ ws 0 20 true _ HA.out rfl (by omega) (by simpa using HR.out)).mono ?_; rintro e w' ⟨rfl, rfl⟩)
  go_ret
  exact ⟨rfl, rfl⟩

theorem ringCheck_err (ao : Option Addr) (len ac B : Nat) (ws : List Int) (c : Int) (w : World) (hA : IntSl B w ao ws) (hlen : len = ws.length) (hl : ws.length ≤ 9223372036854775807)
    (h : (ws.length = 0 ∧ c = 5) ∨ (8 < ws.length ∧ c = 4) ∨ (0 < ws.length ∧ ws.length ≤ 8 ∧ ¬ (∀ x ∈ ws, 0 ≤ x ∧ x ≤ 20) ∧ c = 1)) :
    Calls Try.prog 26 #[.slice ao len ac] w fun e w' => e = .returned (.iface 47 (.int .i64 c)) ∧ w = w' := by
  subst hlen
  have HA := Lib.hid hA; clear hA
  rcases h with ⟨h1, rfl⟩ | ⟨h1, rfl⟩ | ⟨h1, h2, h3, rfl⟩
  · have hd0 : ((ws.length : Int) == 0) = true := by simp [h1]
    have H1 := Lib.hid h1; clear h1
    go_enter Try.func26, Try.ntmps26
    go_wp2
    go_ret
    exact ⟨rfl, rfl⟩
  · have hd0 : ((ws.length : Int) == 0) = false := by simp; intro e; simp [e] at h1
    have hd1 : decide ((8 : Int) < (ws.length : Int)) = true := by simp; omega
    go_enter Try.func26, Try.ntmps26
    go_wp2
    go_ret
    exact ⟨rfl, rfl⟩
  · have H3 := Lib.hid h3; clear h3
    have hd0 : ((ws.length : Int) == 0) = false := by simp; intro e; simp [e] at h1
    have hd1 : decide ((8 : Int) < (ws.length : Int)) = false := by simp; omega
    go_enter Try.func26, Try.ntmps26
    go_wp2_with (go_at_call 29; refine (all_any _ _ _ _ ws 0 20 false _ HA.out rfl (by omega) (by have := H3.out; simpa using this)).mono ?_; rintro e w' ⟨rfl, rfl⟩)
    go_ret
    exact ⟨rfl, rfl⟩

theorem ringRun_err (ao : Option Addr) (len ac B : Nat) (ws : List Int) (h c : Int) (w : World) (hA : IntSl B w ao ws) (hlen : len = ws.length) (hl : ws.length ≤ 9223372036854775807) (hb : RingBad ws h c) :
    Calls Try.prog 17 #[.slice ao len ac, .int .i64 h] w fun e w' => e = .returned (.tuple #[.slice none 0 0, .iface 47 (.int .i64 c)]) ∧ w = w' := by
  subst hlen
  have key : ((ws.length = 0 ∧ c = 5) ∨ (8 < ws.length ∧ c = 4) ∨ (0 < ws.length ∧ ws.length ≤ 8 ∧ ¬ (∀ x ∈ ws, 0 ≤ x ∧ x ≤ 20) ∧ c = 1)) ∨ (0 < ws.length ∧ ws.length ≤ 8 ∧ (∀ x ∈ ws, 0 ≤ x ∧ x ≤ 20) ∧ ¬ (1 ≤ h ∧ h ≤ 20) ∧ c = 1) := by
    rcases hb with h | h | h | h
    · exact .inl (.inl h)
    · exact .inl (.inr (.inl h))
    · exact .inl (.inr (.inr h))
    · exact .inr h
  have HA := Lib.hid hA; clear hA hb
  rcases key with h1 | ⟨h1, h2, h3, h4, rfl⟩
  · have H1 := Lib.hid h1; clear h1
    go_enter Try.func17, Try.ntmps17
    go_wp2_with (go_at_call 26; refine (ringCheck_err _ _ _ _ ws c _ HA.out rfl hl H1.out).mono ?_; rintro e w' ⟨rfl, rfl⟩)
    go_ret2
    exact ⟨rfl, rfl⟩
  · have H3 := Lib.hid h3; clear h3
    have H4 := Lib.hid h4; clear h4
    go_enter Try.func17, Try.ntmps17
    go_wp2_with (first
      | (go_at_call 26; refine (ringCheck_ok _ _ _ _ ws _ HA.out rfl h1 h2 H3.out).mono ?_; rintro e w' ⟨rfl, rfl⟩)
      | (go_at_call 20; refine (within_no _ _ _ _ H4.out).mono ?_; rintro e w' ⟨rfl, rfl⟩))
    go_ret2
    exact ⟨rfl, rfl⟩

set_option maxHeartbeats 1000000 in
theorem ringRun_ok (ao : Option Addr) (len ac B : Nat) (ws : List Int) (h : Int) (w : World) (hA : IntSl B w ao ws) (hlen : len = ws.length) (hB : B ≤ w.heap.size) (hok : RingOk ws h) :
    Calls Try.prog 17 #[.slice ao len ac, .int .i64 h] w fun e w' =>
      ∃ va, e = .returned (.tuple #[va, .nilIface]) ∧ Sep w.heap.size w' [Ent.ints 3 va (ringOut ws h.toNat)] ∧ Below w.heap.size w w' := by
  subst hlen
  obtain ⟨h0, h8, hall, hlo, hhi⟩ := hok
  obtain ⟨m, rfl⟩ := Int.eq_ofNat_of_zero_le (by omega : 0 ≤ h)
  rw [Int.toNat_natCast]
  have HA := Lib.hid hA; clear hA
  have HR := Lib.hid hall; clear hall
  go_enter Try.func17, Try.ntmps17
  go_wp2_with (first
    | (go_at_call 26; refine (ringCheck_ok _ _ _ _ ws _ HA.out rfl h0 h8 HR.out).mono ?_; rintro e w' ⟨rfl, rfl⟩)
    | (go_at_call 20; refine (within_yes _ _ _ _ (by omega) (by omega)).mono ?_; rintro e w' ⟨rfl, rfl⟩))
  refine (clone_any _ _ _ _ ws _ HA.out rfl hB h0 (by omega)).mono ?_
  rintro e w1 ⟨va, rfl, hs1, hb1⟩
  obtain ⟨ao1, c1, rfl, hc1, hz1⟩ := hs1.intsShape (A := []) (C := [])
  obtain ⟨x0, hx0⟩ : ∃ x, ws[0]? = some x := ⟨_, List.getElem?_eq_getElem h0⟩
  obtain ⟨g, o, rfl, _, _⟩ := Sep.intsAt (A := []) (C := []) hs1 hx0
  clear hx0 hz1
  have HS1 := Lib.hid hs1; clear hs1
  have HB1 := Lib.hid hb1; clear hb1
  go_wp2
  go_loopg [8, 9] 168 (fun gk vb at' wr => ∃ r a t : Nat, Hid (t = r * ws.length + a) ∧ gk + t = 168 ∧ a < ws.length ∧ r ≤ 20 ∧ at' = .int .i64 a ∧
    Sep w.heap.size wr [Ent.ints 3 vb (ringNow ws m r a), Ent.ints 3 (.slice (some ⟨g, o, none⟩) ws.length c1) (ringLeft ws m r a)] ∧ Below w.heap.size w wr)
  case atStart =>
    refine ⟨0, 0, 0, by simp [Hid], rfl, by omega, by omega, rfl, ?_, HB1.out⟩
    rw [ringLeft_zero]
    exact HS1.out.intsNil _
  case round =>
    obtain ⟨r, a, t, ht, hgk, ha, hr, rfl, hsep, hbel⟩ := hrel
    obtain ⟨ao2, c2, rfl, hc2, _⟩ := hsep.intsShape (A := []) (C := [_])
    have hnl := ringNow_len (h := m) (r := r) (a := a) HR.out (by omega) (by omega)
    have hll : (ringLeft ws m r a).length = ws.length := ringLeft_len ..
    have hsl : IntSl wr.heap.size wr (some ⟨g, o, none⟩) (ringLeft ws m r a) := by
      rw [← hll] at hsep; exact hsep.intSl (A := [_]) (C := [])
    have HSL := Lib.hid hsl; clear hsl
    have HLL := Lib.hid hll; clear hll
    have HS := Lib.hid hsep; clear hsep
    have HB := Lib.hid hbel; clear hbel
    go_wp2_with fail
    refine (max_any _ _ _ _ (ringLeft ws m r a) _ HSL.out HLL.out.symm (by rw [HLL.out]; omega) (by rw [HLL.out]; omega)).mono ?_
    rintro e w2 ⟨mx, rfl, rfl, hmem, hmax⟩
    have HMEM := Lib.hid hmem; clear hmem
    have HMAX := Lib.hid hmax; clear hmax
    by_cases hmx : 0 < mx
    · obtain ⟨x, hx⟩ : ∃ x, ws[a]? = some x := ⟨_, List.getElem?_eq_getElem ha⟩
      obtain ⟨y, e1, e2, e3, e4, e5⟩ := ring_amt (h := m) (r := r) hx (HR.out x (List.mem_iff_getElem?.2 ⟨a, hx⟩)).1
      have hxb := HR.out x (List.mem_iff_getElem?.2 ⟨a, hx⟩)
      have hr20 : r < 20 := by
        obtain ⟨i, hi⟩ := List.mem_iff_getElem?.1 HMEM.out
        have hil : i < ws.length := by rw [← HLL.out]; exact (List.getElem?_eq_some_iff.1 hi).1
        obtain ⟨z, hz⟩ : ∃ z, ws[i]? = some z := ⟨_, List.getElem?_eq_getElem hil⟩
        rw [ringLeft_get hz] at hi
        have hzb := HR.out z (List.mem_iff_getElem?.2 ⟨i, hz⟩)
        have hmo := (ringServed ws m).mono i r
        have hrm : r * 1 ≤ r * m := Nat.mul_le_mul_left r (by omega)
        have h5 : ringSrv ws m i r = min z.toNat (r * m) := by unfold ringSrv; rw [wOf_get hz]
        simp only [Option.some.injEq] at hi
        split at hi <;> omega
      have HX := Lib.hid hx; clear hx
      have hll2 : ∀ v : Int, ((ringLeft ws m r a).set a v).length = ws.length := fun v => by rw [List.length_set]; exact HLL.out
      have HL2 := Lib.hid hll2; clear hll2
      have hst : (ringLeft ws m r a).set a ((y : Int) - ((0 : Nat) : Int)) = ringLeft ws m r a := by
        refine List.ext_getElem? fun i => ?_
        by_cases hi : i = a
        · subst hi
          rw [List.getElem?_set_self (by rw [HLL.out]; exact ha), ringLeft_get HX.out, if_neg (by omega), e1]; simp
        · rw [List.getElem?_set_ne (by omega)]
      have HST := Lib.hid hst; clear hst
      have hd : decide (0 < mx) = true := by simp; omega
      have E1 := Lib.hid e1; clear e1
      have E2 := Lib.hid e2; clear e2
      have E3 := Lib.hid e3; clear e3
      have hyb : y ≤ 20 := by omega
      have ht168 : t < 168 := by
        have h1 := ht.out
        have h2 : r * ws.length ≤ 19 * 8 := Nat.mul_le_mul (by omega) (by omega)
        omega
      have hadv : (((a : Int) + 1) % (ws.length : Int) = (if a + 1 < ws.length then ((a + 1 : Nat) : Int) else 0)) := by
        by_cases h1 : a + 1 < ws.length
        · rw [if_pos h1, Int.emod_eq_of_lt (by omega) (by omega)]; omega
        · rw [if_neg h1, show ((a : Int) + 1) = (ws.length : Int) by omega, Int.emod_self]
      have HADV := Lib.hid hadv; clear hadv
      clear e4 e5
      go_wp2
      go_loopw [8, 10] (fun vb i wr => ∃ k : Nat, k ≤ y ∧ k ≤ m ∧ i = .int .i64 k ∧ Sep w.heap.size wr [Ent.ints 3 vb (ringNow ws m r a ++ List.replicate k (a : Int)), Ent.ints 3 (.slice (some ⟨g, o, none⟩) ws.length c1) ((ringLeft ws m r a).set a ((y : Int) - (k : Int)))] ∧ Below w.heap.size w wr) (fun _ i _ => m - (intOf i).toNat)
      case atStart =>
        refine ⟨0, Nat.zero_le _, Nat.zero_le _, rfl, ?_, HB.out⟩
        rw [HST.out]
        simpa using HS.out
      case round =>
        obtain ⟨k, hky, hkm, rfl, hsep, hbel⟩ := hrel
        obtain ⟨T, hT⟩ : ∃ T, T = ringNow ws m r a ++ List.replicate k (a : Int) := ⟨_, rfl⟩
        have hTl : T.length ≤ 340 := by rw [hT, List.length_append, List.length_replicate]; omega
        rw [← hT] at hsep
        have HT := Lib.hid hT; clear hT
        have hsep2 := hsep
        rw [← HL2.out ((y : Int) - (k : Int))] at hsep2
        obtain ⟨g', o', he, cl, fl⟩ := Sep.intsAt (A := [_]) (C := []) hsep2 (j := a) (x := (y : Int) - (k : Int)) (List.getElem?_set_self (by rw [HLL.out]; exact ha))
        simp only [Option.some.injEq, Addr.mk.injEq, and_true] at he
        obtain ⟨rfl, rfl⟩ := he
        have hset := Sep.intsSet (A := [_]) (C := []) hsep2 a ((y : Int) - (k : Int) - 1)
        rw [HL2.out, List.set_set] at hset
        obtain ⟨ao3, c3, rfl, hc3, _⟩ := hsep.intsShape (A := []) (C := [_])
        have HSET : Hid (Sep w.heap.size (wr.setCell ⟨g, o + a, none⟩ (.int .i64 ((y : Int) - (k : Int) - 1))) [Ent.ints 3 (.slice ao3 T.length c3) T, Ent.ints 3 (.slice (some ⟨g, o, none⟩) ws.length c1) ((ringLeft ws m r a).set a ((y : Int) - (k : Int) - 1))]) := hset
        clear hset hsep2
        have hbg : w.heap.size ≤ g := Sep.intsBlk (A := [_]) (C := []) hsep
        have hb3 := hbel.setCell (p := ⟨g, o + a, none⟩) hbg (.int .i64 ((y : Int) - (k : Int) - 1))
        have HB3 := Lib.hid hb3; clear hb3
        have HS3 := Lib.hid hsep; clear hsep
        have HB4 := Lib.hid hbel; clear hbel
        by_cases hk1 : k < m ∧ k < y
        · obtain ⟨hk1, hk2⟩ := hk1
          have hd1 : decide ((k : Int) < (m : Int)) = true := by simp; omega
          have hd2 : decide (0 < (y : Int) - (k : Int)) = true := by simp; omega
          go_wp2_with (at_builtin; refine wpList_append_int rfl (.tmp 48) (.tmp 50) rfl elemInt8 (A := []) rfl HSET.out HB3.out.size ((show _ = Value.slice (some ⟨wr.heap.size, 0, none⟩) 1 1 from rfl).trans (by rw [setCell_size])) (by omega) ?_)
          intro v' w3 hs4 hb4
          have HS4 := Lib.hid hs4; clear hs4
          have HB5 := Lib.hid (HB3.out.trans hb4); clear hb4
          go_wp2
          go_roundw
          case rel =>
            refine ⟨k + 1, by omega, by omega, by go_num, ?_, HB5.out⟩
            have := HS4.out
            rw [HT.out, List.append_assoc, ← List.replicate_succ', show (y : Int) - (k : Int) - 1 = (y : Int) - ((k + 1 : Nat) : Int) by omega] at this
            exact this
          case measure => simp [intOf]; omega
        · have hkm2 : k = min y m := by omega
          have hfin : (ringLeft ws m r a).set a ((y : Int) - (k : Int)) = ringLeft ws m r (a + 1) := by
            have h1 := ringLeft_turn (h := m) (r := r) HX.out
            rw [E3.out, ← hkm2] at h1
            exact h1
          have hout : T = ringNow ws m r (a + 1) := by rw [HT.out, ringNow_turn, E2.out, ← hkm2]
          have hs5 := HS3.out
          rw [hfin] at hs5
          have HOUT := Lib.hid hout; clear hout hkm2 hfin
          have HS5 := Lib.hid hs5; clear hs5
          by_cases hk2 : k < m
          · have hd1 : decide ((k : Int) < (m : Int)) = true := by simp; omega
            have hd2 : decide (0 < (y : Int) - (k : Int)) = false := by simp; omega
            go_wp2
            go_roundg (gk - 1)
            case measure => omega
            case rel =>
              rw [HADV.out]
              have hs6 := HS5.out
              rw [HOUT.out] at hs6
              by_cases h1 : a + 1 < ws.length
              · rw [if_pos h1]
                exact ⟨r, a + 1, t + 1, by have := ht.out; simp only [Hid]; omega, by omega, h1, hr, rfl, by rw [HOUT.out]; exact hs6, HB4.out⟩
              · rw [if_neg h1]
                have h2 : a + 1 = ws.length := by omega
                refine ⟨r + 1, 0, t + 1, ?_, by omega, by omega, by omega, rfl, ?_, HB4.out⟩
                · have h3 := ht.out
                  have h4 := Nat.add_mul r 1 ws.length
                  simp only [Hid]; omega
                · rw [h2, ringLeft_wrap, ringNow_wrap] at hs6
                  rw [HOUT.out, h2, ringNow_wrap]
                  exact hs6
          · have hd1 : decide ((k : Int) < (m : Int)) = false := by simp; omega
            go_wp2
            go_roundg (gk - 1)
            case measure => omega
            case rel =>
              rw [HADV.out]
              have hs6 := HS5.out
              rw [HOUT.out] at hs6
              by_cases h1 : a + 1 < ws.length
              · rw [if_pos h1]
                exact ⟨r, a + 1, t + 1, by have := ht.out; simp only [Hid]; omega, by omega, h1, hr, rfl, by rw [HOUT.out]; exact hs6, HB4.out⟩
              · rw [if_neg h1]
                have h2 : a + 1 = ws.length := by omega
                refine ⟨r + 1, 0, t + 1, ?_, by omega, by omega, by omega, rfl, ?_, HB4.out⟩
                · have h3 := ht.out
                  have h4 := Nat.add_mul r 1 ws.length
                  simp only [Hid]; omega
                · rw [h2, ringLeft_wrap, ringNow_wrap] at hs6
                  rw [HOUT.out, h2, ringNow_wrap]
                  exact hs6
    · have hd : decide (0 < mx) = false := by simp; omega
      go_wp2
      go_ret2
      refine ⟨_, rfl, ?_, HB.out⟩
      have hs := HS.out
      rw [ring_stop HR.out (by omega) (by omega) hr (fun z hz => by have := HMAX.out z hz; omega)] at hs ⊢
      exact hs.sub (List.Sublist.cons_cons _ (List.nil_sublist _))
end Go.Proofs.Ytpfpaheafpibiaa
