/- cmp.Compare, cmp.Or of three numbers, stp.less. -/
import Derived.Test.YtnmddgjgmdegoaaRows
import Derived.Test.YtnmddgjgmdegoaaBase
import Derived.Test.YtnmddgjgmdegoaaLessPlain
import Derived.Deep.RegionHeld3
import Derived.Deep.RegionWith
import Derived.Deep.DeepCutAuto
namespace Go.Proofs.Ytnmddgjgmdegoaa
open Go.RowKit
set_option linter.unusedVariables false

theorem compare_any (a b : Int) (w : World) : Calls Try.prog 42 #[.int .i64 a, .int .i64 b] w fun e w' => e = .returned (.int .i64 (cmpI a b)) ∧ w = w' := by
  have ha : (a != a) = false := by simp
  have hb : (b != b) = false := by simp
  unfold cmpI
  by_cases h1 : a < b
  · rw [if_pos h1]
    go_enter Try.func42, Try.ntmps42
    go_wp2
    go_ret
    exact ⟨rfl, rfl⟩
  · rw [if_neg h1]
    have d1 : decide (a < b) = false := decide_eq_false h1
    by_cases h2 : b < a
    · rw [if_pos h2]
      clear h1
      go_enter Try.func42, Try.ntmps42
      go_wp2
      go_ret
      exact ⟨rfl, rfl⟩
    · rw [if_neg h2]
      have d2 : decide (b < a) = false := decide_eq_false h2
      clear h1 h2
      go_enter Try.func42, Try.ntmps42
      go_wp2
      go_ret
      exact ⟨rfl, rfl⟩

theorem or3_any (ao : Option Addr) (B : Nat) (x y z : Int) (w : World) (hA : IntSl B w ao [x, y, z]) :
    Calls Try.prog 41 #[.slice ao 3 3] w fun e w' => e = .returned (.int .i64 (or3 x y z)) ∧ w = w' := by
  obtain ⟨b, off, rfl, _, c0⟩ := hA 0 x rfl
  obtain ⟨b1, off1, he, _, c1⟩ := hA 1 y rfl
  simp only [Option.some.injEq, Addr.mk.injEq, and_true] at he
  obtain ⟨rfl, rfl⟩ := he
  obtain ⟨b1, off1, he, _, c2⟩ := hA 2 z rfl
  simp only [Option.some.injEq, Addr.mk.injEq, and_true] at he
  obtain ⟨rfl, rfl⟩ := he
  rw [Nat.add_zero] at c0
  clear hA
  obtain ⟨r, hr⟩ : ∃ r, r = or3 x y z := ⟨_, rfl⟩
  rw [← hr]
  have HR := Lib.hid hr; clear hr
  go_enter Try.func41, Try.ntmps41
  go_wp2
  go_loop [8] (fun i => ∃ k : Nat, k ≤ 3 ∧ i = .int .i64 k ∧ Hid ((1 ≤ k → x = 0) ∧ (2 ≤ k → y = 0) ∧ (3 ≤ k → z = 0))) (fun i => 3 - (intOf i).toNat)
  case atStart => exact ⟨0, by omega, rfl, ⟨fun h => by omega, fun h => by omega, fun h => by omega⟩⟩
  case round =>
    obtain ⟨k, hk, rfl, hz⟩ := hrel
    have h4 : k = 0 ∨ k = 1 ∨ k = 2 ∨ k = 3 := by omega
    rcases h4 with rfl | rfl | rfl | rfl
    · by_cases h : x = 0
      · have hb : (x != 0) = false := by simp [h]
        have H := Lib.hid h; clear h
        go_wp2
        go_round
        case rel => exact ⟨1, by omega, by go_num, ⟨fun _ => H.out, fun h => by omega, fun h => by omega⟩⟩
        case measure => simp [intOf]
      · have hb : (x != 0) = true := by simp [h]
        have H := Lib.hid h; clear h
        have e : r = x := by rw [HR.out]; unfold or3; rw [if_pos H.out]
        subst e
        go_wp2
        go_ret
        exact ⟨rfl, rfl⟩
    · by_cases h : y = 0
      · have hb : (y != 0) = false := by simp [h]
        have H := Lib.hid h; clear h
        go_wp2
        go_round
        case rel => exact ⟨2, by omega, by go_num, ⟨fun _ => hz.out.1 (by omega), fun _ => H.out, fun h => by omega⟩⟩
        case measure => simp [intOf]
      · have hb : (y != 0) = true := by simp [h]
        have H := Lib.hid h; clear h
        have e : r = y := by rw [HR.out]; unfold or3; rw [if_neg (fun h => h (hz.out.1 (by omega))), if_pos H.out]
        subst e
        go_wp2
        go_ret
        exact ⟨rfl, rfl⟩
    · by_cases h : z = 0
      · have hb : (z != 0) = false := by simp [h]
        have H := Lib.hid h; clear h
        go_wp2
        go_round
        case rel => exact ⟨3, by omega, by go_num, ⟨fun _ => hz.out.1 (by omega), fun _ => hz.out.2.1 (by omega), fun _ => H.out⟩⟩
        case measure => simp [intOf]
      · have hb : (z != 0) = true := by simp [h]
        have H := Lib.hid h; clear h
        have e : r = z := by rw [HR.out]; unfold or3; rw [if_neg (fun h => h (hz.out.1 (by omega))), if_neg (fun h => h (hz.out.2.1 (by omega)))]
        subst e
        go_wp2
        go_ret
        exact ⟨rfl, rfl⟩
    · have e : r = 0 := by rw [HR.out]; unfold or3; rw [if_neg (fun h => h (hz.out.1 (by omega))), if_neg (fun h => h (hz.out.2.1 (by omega))), hz.out.2.2 (by omega)]
      subst e
      go_wp2
      go_ret
      exact ⟨rfl, rfl⟩

/- Which of two words is less. -/
set_option maxHeartbeats 2000000 in
theorem less_any (a0 a1 a2 b0 b1 b2 : Int) (w : World) :
    Calls Try.prog 61 #[.agg #[.int .i64 a0, .int .i64 a1, .int .i64 a2], .agg #[.int .i64 b0, .int .i64 b1, .int .i64 b2]] w fun e w' => e = .returned (.int .i64 (lessI (a0, a1, a2) (b0, b1, b2))) ∧ Below w.heap.size w w' := by
  obtain ⟨g, hg⟩ : ∃ g, g = w.heap.size := ⟨_, rfl⟩
  have s1 := Sep.blkNew (Sep.nil w.heap.size w) (Nat.le_refl _) #[.int .i64 a0, .int .i64 a1, .int .i64 a2] 127
  have z1 : (w.alloc (.cells #[.int .i64 a0, .int .i64 a1, .int .i64 a2] 127)).heap.size = w.heap.size + 1 := by simp
  have s2 := Sep.blkNew s1 (by omega) #[.int .i64 b0, .int .i64 b1, .int .i64 b2] 127
  rw [z1, ← hg] at s2
  have hb2 : Below g w ((w.alloc (.cells #[.int .i64 a0, .int .i64 a1, .int .i64 a2] 127)).alloc (.cells #[.int .i64 b0, .int .i64 b1, .int .i64 b2] 127)) := by
    rw [hg]; exact (below_alloc w _).alloc (by simp) _
  have HS2 := Lib.hid s2
  have HB2 := Lib.hid hb2
  have HG := Lib.hid hg
  clear s1 z1 s2 hb2
  go_enter Try.func61, Try.ntmps61
  go_upto_region 1 with fail
  rw [← hg]
  clear hg
  generalize (w.alloc (.cells #[.int .i64 a0, .int .i64 a1, .int .i64 a2] 127)).alloc (.cells #[.int .i64 b0, .int .i64 b1, .int .i64 b2] 127) = w2 at *
  obtain ⟨p0, _⟩ := Sep.blkAt (A := [_]) HS2.out (j := 0) rfl
  obtain ⟨p1, _⟩ := Sep.blkAt (A := [_]) HS2.out (j := 1) rfl
  obtain ⟨p2, _⟩ := Sep.blkAt (A := [_]) HS2.out (j := 2) rfl
  obtain ⟨q0, _⟩ := Sep.blkAt (A := []) HS2.out (j := 0) rfl
  obtain ⟨q1, _⟩ := Sep.blkAt (A := []) HS2.out (j := 1) rfl
  obtain ⟨q2, _⟩ := Sep.blkAt (A := []) HS2.out (j := 2) rfl
  have his : IntSl (w2.heap.size + 1) (w2.alloc (.cells #[.int .i64 (cmpI a0 b0), .int .i64 (cmpI a1 b1), .int .i64 (cmpI a2 b2)] 3)).drew (some ⟨w2.heap.size, 0, none⟩) [cmpI a0 b0, cmpI a1 b1, cmpI a2 b2] :=
    (intSl_new w2 #[.int .i64 (cmpI a0 b0), .int .i64 (cmpI a1 b1), .int .i64 (cmpI a2 b2)] 3 [cmpI a0 b0, cmpI a1 b1, cmpI a2 b2] rfl).below (below_drew _ _)
  have HIS := Lib.hid his; clear his
  go_region_held3 (fun w' => w'.cell? ⟨g, 0, none⟩ = some (.int .i64 a0) ∧ w'.cell? ⟨g, 1, none⟩ = some (.int .i64 a1) ∧ w'.cell? ⟨g, 2, none⟩ = some (.int .i64 a2) ∧ w'.cell? ⟨g + 1, 0, none⟩ = some (.int .i64 b0) ∧ w'.cell? ⟨g + 1, 1, none⟩ = some (.int .i64 b1) ∧ w'.cell? ⟨g + 1, 2, none⟩ = some (.int .i64 b2))
    (first | exact ⟨p0, p1, p2, q0, q1, q2⟩ | go_keep) (first
    | (go_at_call 42; refine (compare_any _ _ _).mono ?_; rintro e w' ⟨rfl, rfl⟩)
    | (go_at_call 41; refine (or3_any _ (w2.heap.size + 1) (cmpI a0 b0) (cmpI a1 b1) (cmpI a2 b2) _ ?_).mono ?_; exact HIS.out; rintro e w' ⟨rfl, rfl⟩))
  all_goals
    go_wp2
    go_ret
    refine ⟨rfl, ?_⟩
    have h := (HB2.out.alloc (show g ≤ w2.heap.size by have := HB2.out.size; rw [← HG.out] at this; exact this) (.cells #[.int .i64 (cmpI a0 b0), .int .i64 (cmpI a1 b1), .int .i64 (cmpI a2 b2)] 3)).drew
    rw [HG.out] at h
    exact h
end Go.Proofs.Ytnmddgjgmdegoaa
