/- cmp.Compare, cmp.Or of two numbers; the order of things (rounds.items). -/
import Derived.Test.YtpfpaheafpibiaaDoorItmRow
import Derived.Deep.RegionHeld3
import Derived.Deep.RegionWith
import Derived.Deep.DeepCutAuto
namespace Go.Proofs.YtpfpaheafpibiaaDoor
open Go.RowKit
set_option linter.unusedVariables false
set_option maxRecDepth 100000

def cmpI (a b : Int) : Int := if a < b then -1 else if b < a then 1 else 0
theorem compare_any (a b : Int) (w : World) : Calls Tryd.prog 21 #[.int .i64 a, .int .i64 b] w fun e w' => e = .returned (.int .i64 (cmpI a b)) ∧ w = w' := by
  have ha : (a != a) = false := by simp
  have hb : (b != b) = false := by simp
  unfold cmpI
  by_cases h1 : a < b
  · rw [if_pos h1]
    go_enter Tryd.func21, Tryd.ntmps21
    go_wp2
    go_ret
    exact ⟨rfl, rfl⟩
  · rw [if_neg h1]
    have d1 : decide (a < b) = false := decide_eq_false h1
    by_cases h2 : b < a
    · rw [if_pos h2]
      clear h1
      go_enter Tryd.func21, Tryd.ntmps21
      go_wp2
      go_ret
      exact ⟨rfl, rfl⟩
    · rw [if_neg h2]
      have d2 : decide (b < a) = false := decide_eq_false h2
      clear h1 h2
      go_enter Tryd.func21, Tryd.ntmps21
      go_wp2
      go_ret
      exact ⟨rfl, rfl⟩

def or2 (x y : Int) : Int := if x ≠ 0 then x else y
def cmpT (x y : Itm) : Int := or2 (cmpI x.2.2.1 y.2.2.1) (cmpI x.1 y.1)
theorem cmpT_lt (x y : Itm) : decide (cmpT x y < 0) = decide (ltI x y) := by
  rw [decide_eq_decide]
  unfold cmpT or2 cmpI ltI
  constructor
  · intro h
    split at h <;> split at h <;> (try split at h) <;> (try split at h) <;> omega
  · intro h
    split <;> split <;> (try split) <;> (try split) <;> omega
theorem or2_any (ao : Option Addr) (B : Nat) (x y : Int) (w : World) (hA : IntSl B w ao [x, y]) :
    Calls Tryd.prog 20 #[.slice ao 2 2] w fun e w' => e = .returned (.int .i64 (or2 x y)) ∧ w = w' := by
  obtain ⟨b, off, rfl, _, c0⟩ := hA 0 x rfl
  obtain ⟨b1, off1, he, _, c1⟩ := hA 1 y rfl
  simp only [Option.some.injEq, Addr.mk.injEq, and_true] at he
  obtain ⟨rfl, rfl⟩ := he
  rw [Nat.add_zero] at c0
  clear hA
  obtain ⟨r, hr⟩ : ∃ r, r = or2 x y := ⟨_, rfl⟩
  rw [← hr]
  have HR := Lib.hid hr; clear hr
  go_enter Tryd.func20, Tryd.ntmps20
  go_wp2
  go_loop [8] (fun i => ∃ k : Nat, k ≤ 2 ∧ i = .int .i64 k ∧ Hid ((1 ≤ k → x = 0) ∧ (2 ≤ k → y = 0))) (fun i => 2 - (intOf i).toNat)
  case atStart => exact ⟨0, by omega, rfl, ⟨fun h => by omega, fun h => by omega⟩⟩
  case round =>
    obtain ⟨k, hk, rfl, hz⟩ := hrel
    have h4 : k = 0 ∨ k = 1 ∨ k = 2 := by omega
    rcases h4 with rfl | rfl | rfl
    · by_cases h : x = 0
      · have hb : (x != 0) = false := by simp [h]
        have H := Lib.hid h; clear h
        go_wp2
        go_round
        case rel => exact ⟨1, by omega, by go_num, ⟨fun _ => H.out, fun h => by omega⟩⟩
        case measure => simp [intOf]
      · have hb : (x != 0) = true := by simp [h]
        have e : r = x := by rw [HR.out]; unfold or2; rw [if_pos h]
        clear h
        subst e
        go_wp2
        go_ret
        exact ⟨rfl, rfl⟩
    · by_cases h : y = 0
      · have hb : (y != 0) = false := by simp [h]
        have H := Lib.hid h; clear h
        go_wp2
        go_round
        case rel => exact ⟨2, by omega, by go_num, ⟨fun _ => hz.out.1 (by omega), fun _ => H.out⟩⟩
        case measure => simp [intOf]
      · have hb : (y != 0) = true := by simp [h]
        have e : r = y := by rw [HR.out]; unfold or2; rw [if_neg (fun h => h (hz.out.1 (by omega)))]
        clear h
        subst e
        go_wp2
        go_ret
        exact ⟨rfl, rfl⟩
    · have e : r = 0 := by rw [HR.out]; unfold or2; rw [if_neg (fun h => h (hz.out.1 (by omega))), hz.out.2 (by omega)]
      subst e
      go_wp2
      go_ret
      exact ⟨rfl, rfl⟩
/- Which of two things is first. -/
set_option maxHeartbeats 2000000 in
theorem itcmp_any (x y : Itm) (w : World) :
    Calls Tryd.prog 19 #[itV x, itV y] w fun e w' => e = .returned (.int .i64 (cmpT x y)) ∧ Below w.heap.size w w' := by
  obtain ⟨a0, a1, a2, a3⟩ := x
  obtain ⟨b0, b1, b2, b3⟩ := y
  unfold itV cmpT
  simp only
  obtain ⟨g, hg⟩ : ∃ g, g = w.heap.size := ⟨_, rfl⟩
  have s1 := Sep.blkNew (Sep.nil w.heap.size w) (Nat.le_refl _) #[.int .i64 a0, .int .i64 a1, .int .i64 a2, .int .i64 a3] 42
  have z1 : (w.alloc (.cells #[.int .i64 a0, .int .i64 a1, .int .i64 a2, .int .i64 a3] 42)).heap.size = w.heap.size + 1 := by simp
  have s2 := Sep.blkNew s1 (by omega) #[.int .i64 b0, .int .i64 b1, .int .i64 b2, .int .i64 b3] 42
  rw [z1, ← hg] at s2
  have hb2 : Below g w ((w.alloc (.cells #[.int .i64 a0, .int .i64 a1, .int .i64 a2, .int .i64 a3] 42)).alloc (.cells #[.int .i64 b0, .int .i64 b1, .int .i64 b2, .int .i64 b3] 42)) := by
    rw [hg]; exact (below_alloc w _).alloc (by simp) _
  have HS2 := Lib.hid s2
  have HB2 := Lib.hid hb2
  have HG := Lib.hid hg
  clear s1 z1 s2 hb2
  go_enter Tryd.func19, Tryd.ntmps19
  go_upto_region 1 with fail
  rw [← hg]
  clear hg
  generalize (w.alloc (.cells #[.int .i64 (a0 : Int), .int .i64 (a1 : Int), .int .i64 (a2 : Int), .int .i64 (a3 : Int)] 42)).alloc (.cells #[.int .i64 (b0 : Int), .int .i64 (b1 : Int), .int .i64 (b2 : Int), .int .i64 (b3 : Int)] 42) = w2 at *
  obtain ⟨p0, _⟩ := Sep.blkAt (A := [_]) HS2.out (j := 0) rfl
  obtain ⟨p2, _⟩ := Sep.blkAt (A := [_]) HS2.out (j := 2) rfl
  obtain ⟨q0, _⟩ := Sep.blkAt (A := []) HS2.out (j := 0) rfl
  obtain ⟨q2, _⟩ := Sep.blkAt (A := []) HS2.out (j := 2) rfl
  have his : IntSl (w2.heap.size + 1) (w2.alloc (.cells #[.int .i64 (cmpI a2 b2), .int .i64 (cmpI a0 b0)] 3)).drew (some ⟨w2.heap.size, 0, none⟩) [cmpI a2 b2, cmpI a0 b0] :=
    (intSl_new w2 #[.int .i64 (cmpI a2 b2), .int .i64 (cmpI a0 b0)] 3 [cmpI a2 b2, cmpI a0 b0] rfl).below (below_drew _ _)
  have HIS := Lib.hid his; clear his
  go_region_held3 (fun w' => w'.cell? ⟨g, 0, none⟩ = some (.int .i64 a0) ∧ w'.cell? ⟨g, 2, none⟩ = some (.int .i64 a2) ∧ w'.cell? ⟨g + 1, 0, none⟩ = some (.int .i64 b0) ∧ w'.cell? ⟨g + 1, 2, none⟩ = some (.int .i64 b2))
    (first | exact ⟨p0, p2, q0, q2⟩ | go_keep) (first
    | (go_at_call 21; refine (compare_any _ _ _).mono ?_; rintro e w' ⟨rfl, rfl⟩)
    | (go_at_call 20; refine (or2_any _ (w2.heap.size + 1) (cmpI a2 b2) (cmpI a0 b0) _ ?_).mono ?_; exact HIS.out; rintro e w' ⟨rfl, rfl⟩))
  all_goals
    go_wp2
    go_ret
    refine ⟨rfl, ?_⟩
    have h := (HB2.out.alloc (show g ≤ w2.heap.size by have := HB2.out.size; rw [← HG.out] at this; exact this) (.cells #[.int .i64 (cmpI a2 b2), .int .i64 (cmpI a0 b0)] 3)).drew
    rw [HG.out] at h
    exact h
end Go.Proofs.YtpfpaheafpibiaaDoor
