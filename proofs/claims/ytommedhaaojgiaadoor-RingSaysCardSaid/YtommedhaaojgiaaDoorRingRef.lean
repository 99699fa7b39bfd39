/- ferryhytheref4.Waits, Ring, Gap: the document's answers for a ring. -/
import Derived.Test.YtommedhaaojgiaaDoorRows
import Derived.Test.YtommedhaaojgiaaDoorRingGap
import Derived.Test.YtommedhaaojgiaaDoorGapPlain
import Derived.Test.YtommedhaaojgiaaDoorAllR
import Derived.Deep.LoopGhost
import Derived.BigQuiet
namespace Go.Proofs.YtommedhaaojgiaaDoor
open Go.RowKit
set_option linter.unusedVariables false

theorem waitsB_ok (ao : Option Addr) (len ac B : Nat) (ws : List Int) (w : World) (hA : IntSl B w ao ws) (hlen : len = ws.length) (h0 : 0 < ws.length) (h8 : ws.length ≤ 8) (hall : ∀ x ∈ ws, 0 ≤ x ∧ x ≤ 20) :
    Calls Tryd.prog 24 #[.slice ao len ac] w fun e w' => e = .returned (.int .i64 0) ∧ w = w' := by
  subst hlen
  have HA := Lib.hid hA; clear hA
  have HR := Lib.hid hall; clear hall
  have hd0 : ((ws.length : Int) == 0) = false := beq_eq_false_iff_ne.2 (by omega)
  have hd1 : decide ((8 : Int) < (ws.length : Int)) = false := decide_eq_false (by omega)
  go_enter Tryd.func24, Tryd.ntmps24
  go_wp2_with fail
  refine (allR_any _ _ _ _ ws 0 20 true _ HA.out rfl (by omega) (decide_eq_true HR.out).symm).mono ?_
  rintro e w' ⟨rfl, rfl⟩
  go_wp2
  go_ret
  exact ⟨rfl, rfl⟩
theorem waitsB_err (ao : Option Addr) (len ac B : Nat) (ws : List Int) (c : Int) (w : World) (hA : IntSl B w ao ws) (hlen : len = ws.length) (hl : ws.length ≤ 9223372036854775807)
    (h : (ws.length = 0 ∧ c = 5) ∨ (8 < ws.length ∧ c = 4) ∨ (0 < ws.length ∧ ws.length ≤ 8 ∧ ¬ (∀ x ∈ ws, 0 ≤ x ∧ x ≤ 20) ∧ c = 1)) :
    Calls Tryd.prog 24 #[.slice ao len ac] w fun e w' => e = .returned (.int .i64 c) ∧ w = w' := by
  subst hlen
  have HA := Lib.hid hA; clear hA
  rcases h with ⟨h1, rfl⟩ | ⟨h1, rfl⟩ | ⟨h1, h2, h3, rfl⟩
  · have hd0 : ((ws.length : Int) == 0) = true := by simp [h1]
    have H1 := Lib.hid h1; clear h1
    go_enter Tryd.func24, Tryd.ntmps24
    go_wp2
    go_ret
    exact ⟨rfl, rfl⟩
  · have hd0 : ((ws.length : Int) == 0) = false := beq_eq_false_iff_ne.2 (by omega)
    have hd1 : decide ((8 : Int) < (ws.length : Int)) = true := decide_eq_true (by omega)
    go_enter Tryd.func24, Tryd.ntmps24
    go_wp2
    go_ret
    exact ⟨rfl, rfl⟩
  · have H3 := Lib.hid h3; clear h3
    have hd0 : ((ws.length : Int) == 0) = false := beq_eq_false_iff_ne.2 (by omega)
    have hd1 : decide ((8 : Int) < (ws.length : Int)) = false := decide_eq_false (by omega)
    go_enter Tryd.func24, Tryd.ntmps24
    go_wp2_with fail
    refine (allR_any _ _ _ _ ws 0 20 false _ HA.out rfl (by omega) (decide_eq_false H3.out).symm).mono ?_
    rintro e w' ⟨rfl, rfl⟩
    go_wp2
    go_ret
    exact ⟨rfl, rfl⟩

set_option maxRecDepth 100000 in
set_option maxHeartbeats 1000000 in
theorem gapRef_any (ao : Option Addr) (na ac B : Nat) (l : List Int) (w : World) (hA : IntSl B w ao l) (hna : na = l.length) (hl : l.length ≤ 1000000) :
    Calls Tryd.prog 28 #[.slice ao na ac] w fun e w' => e = .returned (.int .i64 (gapOf l)) ∧ ∃ n, w' = w.drewN n := by
  subst hna
  have HA := Lib.hid hA; clear hA
  go_enter Tryd.func28, Tryd.ntmps28
  go_wp2
  go_loopw [3, 4] (fun mv iv wr => ∃ (m i : Nat), i ≤ l.length ∧ mv = .int .i64 m ∧ iv = .int .i64 i ∧ m ≤ 1000000 ∧ Hid (IsMost l (fun a _ => a < i) m) ∧ ∃ n, wr = w.drewN n) (fun _ iv _ => l.length - (intOf iv).toNat)
  case atStart => exact ⟨0, 0, Nat.zero_le _, rfl, rfl, by omega, ⟨fun i k _ h => absurd h (by omega), .inl rfl⟩, 0, rfl⟩
  case round =>
    obtain ⟨m, i, hi, rfl, rfl, hm, hmost, n, rfl⟩ := hrel
    by_cases hlt : i < l.length
    · obtain ⟨x, hx⟩ : ∃ x, l[i]? = some x := ⟨_, List.getElem?_eq_getElem hlt⟩
      obtain ⟨b, off, rfl, _, c1⟩ := HA.out i x hx
      have HX := Lib.hid hx; clear hx
      have hii : (i : Int) < (l.length : Int) := by omega
      have hi0 : (0 : Int) ≤ (i : Int) := by omega
      go_wp2
      go_loopw [5] (fun kv wr => ∃ k : Nat, i + 1 ≤ k ∧ k ≤ l.length ∧ kv = .int .i64 k ∧ Hid (∀ j, i < j → j < k → l[j]? ≠ some x) ∧ ∃ n, wr = w.drewN n) (fun kv _ => l.length - (intOf kv).toNat)
      case atStart => exact ⟨i + 1, Nat.le_refl _, hlt, by go_num, fun j h1 h2 => absurd h2 (by omega), n, rfl⟩
      case round =>
        obtain ⟨k, hik, hk, rfl, hno, n2, rfl⟩ := hrel
        by_cases hkl : k < l.length
        · obtain ⟨y, hy⟩ : ∃ y, l[k]? = some y := ⟨_, List.getElem?_eq_getElem hkl⟩
          obtain ⟨b', off', he, _, c2⟩ := HA.out k y hy
          simp only [Option.some.injEq, Addr.mk.injEq, and_true] at he
          obtain ⟨rfl, rfl⟩ := he
          have HY := Lib.hid hy; clear hy
          have hki : (k : Int) < (l.length : Int) := by omega
          have hk0 : (0 : Int) ≤ (k : Int) := by omega
          by_cases hxy : y = x
          · subst hxy
            have hb : (y != y) = false := by simp
            by_cases hgt : m < k - i - 1
            · have hd : decide ((m : Int) < (k : Int) - (i : Int) - 1) = true := decide_eq_true (by omega)
              have hd' : decide (m < k - i - 1) = true := decide_eq_true hgt
              go_wp2_with fail
              go_quiet (fail)
              go_wp2
              go_roundw
              case rel => exact ⟨k - i - 1, i + 1, by omega, by go_num, by go_num, by omega, by have := gap_pair hmost.out HX.out (by omega) hkl HY.out hno.out; rw [Nat.max_eq_right (by omega)] at this; exact this, (by first | exact ⟨_, rfl⟩ | exact drewN_two w n2 _)⟩
              case measure => simp [intOf]; omega
            · have hd : decide ((m : Int) < (k : Int) - (i : Int) - 1) = false := decide_eq_false (by omega)
              go_wp2_with fail
              go_quiet (fail)
              go_wp2
              go_roundw
              case rel => exact ⟨m, i + 1, by omega, rfl, by go_num, by omega, by have := gap_pair hmost.out HX.out (by omega) hkl HY.out hno.out; rw [Nat.max_eq_left (by omega)] at this; exact this, (by first | exact ⟨_, rfl⟩ | exact drewN_two w n2 _)⟩
              case measure => simp [intOf]; omega
          · have hb : (y != x) = true := by simp [hxy]
            have HXY := Lib.hid hxy; clear hxy
            go_wp2_with fail
            go_quiet (fail)
            go_wp2
            go_roundw
            case rel =>
              refine ⟨k + 1, by omega, by omega, by go_num, ?_, (by first | exact ⟨_, rfl⟩ | exact drewN_two w n2 _)⟩
              intro j h1 h2
              by_cases hj : j = k
              · subst hj; rw [HY.out]; intro e; exact HXY.out (Option.some.inj e)
              · exact hno.out j h1 (by omega)
            case measure => simp [intOf]; omega
        · obtain rfl : k = l.length := by omega
          have hki : decide ((l.length : Int) < (l.length : Int)) = false := by simp
          go_wp2_with fail
          go_quiet (fail)
          go_wp2
          go_roundw
          case rel => exact ⟨m, i + 1, by omega, rfl, by go_num, by omega, gap_alone hmost.out HX.out hno.out, (by first | exact ⟨_, rfl⟩ | exact drewN_two w n2 _)⟩
          case measure => simp [intOf]; omega
    · obtain rfl : i = l.length := by omega
      have hmm : m = gapOf l := hmost.out.unique (gapOf_most l)
      have HM := Lib.hid hmm; clear hmm
      go_wp2
      go_ret
      exact ⟨ret_int (congrArg Int.ofNat HM.out), _, rfl⟩
end Go.Proofs.YtommedhaaojgiaaDoor
