/- ferryhytheref3.Share in plain words: what each link would have left. -/
import Derived.Test.YtfnfelmaidfppaaDoorMaxPlain
namespace Go.Proofs.YtfnfelmaidfppaaDoor
set_option linter.unusedVariables false

/-- What each way would have in the next round. -/
def nOf (s : MS) (i : Nat) : Nat := s.out i + (if s.op i = true then 1 else 0)
theorem psum_nOf (W : Nat → List Nat) (s : MS) (x : Nat) : ∀ n, usedP W (nOf s) n x = psum (fun i => s.out i * (W i).count x) n + needP W s.op n x
  | 0 => by simp [usedP, needP, psum]
  | n + 1 => by
    have ih := psum_nOf W s x n
    unfold usedP needP at ih ⊢
    simp only [psum]
    rw [ih]
    unfold nOf
    by_cases h : s.op n = true
    · rw [if_pos h, if_pos h, Nat.add_mul, Nat.one_mul]; omega
    · rw [if_neg h, if_neg h, Nat.add_zero]; omega
def leftAll (n : Nat) (W : Nat → List Nat) (room : Nat → Int) (s : MS) (x : Nat) : Int := room x - ((usedP W (nOf s) n x : Nat) : Int)
theorem left_less {n m : Nat} {W : Nat → List Nat} {room : Nat → Int} {s : MS} {t : Nat} (h : MInv n m W room s t) {x : Nat} (hx : x < m) : decide (leftAll n W room s x < 0) = decide (s.L x < (need n W s.op x : Int)) := by
  have h1 := h.left x hx
  have h2 := psum_nOf W s x n
  have h3 : needP W s.op n x = need n W s.op x := needP_all n W s.op x
  unfold leftAll
  rw [h2, h3, h1]
  rw [decide_eq_decide]
  omega
/-- Is a link too full, among the first of a way's? -/
def tightTo (n : Nat) (W : Nat → List Nat) (s : MS) (w : List Nat) (j : Nat) : Bool := tight s.L (need n W s.op) (w.take j)
theorem tightTo_zero (n : Nat) (W : Nat → List Nat) (s : MS) (w : List Nat) : tightTo n W s w 0 = false := by simp [tightTo, tight]
theorem tightTo_succ {n : Nat} {W : Nat → List Nat} {s : MS} {w : List Nat} {j y : Nat} (ht : w.take (j + 1) = w.take j ++ [y]) : tightTo n W s w (j + 1) = (tightTo n W s w j || decide (s.L y < (need n W s.op y : Int))) := by
  unfold tightTo tight
  rw [ht, List.any_append]
  simp
theorem tightTo_end {n : Nat} {W : Nat → List Nat} {s : MS} {w : List Nat} {j : Nat} (hj : w.length ≤ j) : tightTo n W s w j = tight s.L (need n W s.op) w := by
  unfold tightTo; rw [List.take_of_length_le hj]
/-- Which ways are shut, when the first k have been looked at; b: the next one. -/
def shutF (n : Nat) (W : Nat → List Nat) (s : MS) (k : Nat) (b : Bool) (i : Nat) : Bool := if i = k then b else if i < k then !closed n W s i else !s.op i
def shutK (n : Nat) (W : Nat → List Nat) (s : MS) (k i : Nat) : Bool := if i < k then !closed n W s i else !s.op i
theorem shutK_start (n : Nat) (W : Nat → List Nat) (s : MS) (k i : Nat) : shutK n W s k i = shutF n W s k (!s.op k) i := by
  unfold shutK shutF
  by_cases h : i = k
  · subst h; rw [if_pos rfl, if_neg (by omega)]
  · rw [if_neg h]
theorem shutK_next {n : Nat} {W : Nat → List Nat} {s : MS} {k : Nat} {b : Bool} (hb : b = !closed n W s k) (i : Nat) : shutF n W s k b i = shutK n W s (k + 1) i := by
  unfold shutK shutF
  by_cases h : i = k
  · subst h; rw [if_pos rfl, if_pos (by omega), hb]
  · rw [if_neg h]
    by_cases h2 : i < k
    · rw [if_pos h2, if_pos (by omega)]
    · rw [if_neg h2, if_neg (by omega)]
theorem shutF_set (n : Nat) (W : Nat → List Nat) (s : MS) (k : Nat) (b b' : Bool) (i : Nat) : (if i = k then b' else shutF n W s k b i) = shutF n W s k b' i := by
  unfold shutF
  by_cases h : i = k
  · rw [if_pos h, if_pos h]
  · rw [if_neg h, if_neg h, if_neg h]
def openTo (s : MS) (k : Nat) : Bool := (List.range k).any s.op
theorem openTo_succ (s : MS) (k : Nat) : openTo s (k + 1) = (openTo s k || s.op k) := by
  unfold openTo
  rw [List.range_succ, List.any_append]
  simp
theorem shut_end {n : Nat} {W : Nat → List Nat} {s : MS} {i : Nat} (hi : i < n) : shutK n W s n i = !(mmStep n W s).op i := by
  unfold shutK
  rw [if_pos hi]
  unfold mmStep
  by_cases h : anyT n W s n = true
  · rw [if_pos h]
  · rw [if_neg h]
    simp only
    congr 1
    unfold closed
    cases ho : s.op i with
    | false => rfl
    | true =>
      cases ht : tight s.L (need n W s.op) (W i) with
      | false => rfl
      | true => exact absurd (anyT_iff.2 ⟨i, hi, ho, ht⟩) h
theorem out_step_some {n : Nat} {W : Nat → List Nat} {s : MS} (h : anyT n W s n = true) : (mmStep n W s).out = s.out := by unfold mmStep; rw [if_pos h]
theorem out_step_none {n : Nat} {W : Nat → List Nat} {s : MS} (h : anyT n W s n = false) (i : Nat) : (mmStep n W s).out i = nOf s i := by
  unfold mmStep nOf
  rw [if_neg (by rw [h]; exact Bool.false_ne_true)]
  simp only
  split <;> rfl
theorem nOf_le {n m : Nat} {W : Nat → List Nat} {room : Nat → Int} {s : MS} {t : Nat} (hw : WOk n m W) (h : MInv n m W room s t) (hr : ∀ x, x < m → room x ≤ 1000) {i : Nat} (hi : i < n) : nOf s i ≤ 1001 := by
  have := MInv.out_le hw h hr hi
  unfold nOf
  split <;> omega
end Go.Proofs.YtfnfelmaidfppaaDoor
