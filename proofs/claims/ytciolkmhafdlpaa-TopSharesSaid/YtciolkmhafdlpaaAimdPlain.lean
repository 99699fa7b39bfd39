/- Additive increase, multiplicative decrease: plain lists. -/
import Derived.Test.YtciolkmhafdlpaaRows
namespace Go.Proofs.Ytciolkmhafdlpaa
set_option linter.unusedVariables false

def aStep (room : Int) (s : List Int × Nat) : List Int × Nat := if s.1.sum > room then (s.1.map (· / 2), s.2 + 1) else (s.1.map (· + 1), s.2)
def aRun (room : Int) : Nat → List Int × Nat → List Int × Nat
  | 0, s => s
  | k + 1, s => aRun room k (aStep room s)
/-- How far apart after so many halvings. -/
def apart : Nat → Int
  | 0 => 1000
  | h + 1 => (apart h + 1) / 2
theorem apart_ten : apart 10 = 1 := by decide
theorem apart_pos : ∀ h, 1 ≤ apart h
  | 0 => by decide
  | h + 1 => by have := apart_pos h; rw [apart]; omega
theorem apart_le : ∀ h, apart (10 + h) = 1
  | 0 => apart_ten
  | h + 1 => by rw [← Nat.add_assoc, apart, apart_le h]; decide

structure AInv (n : Nat) (k : Nat) (s : List Int × Nat) : Prop where
  len : s.1.length = n
  bd : ∀ x ∈ s.1, 0 ≤ x ∧ x ≤ 1000
  near : ∀ x ∈ s.1, ∀ y ∈ s.1, x - y ≤ apart s.2
  slow : s.2 = 0 → (k : Int) ≤ s.1.sum ∧ k ≤ 21
  few : s.2 ≤ k
theorem sum_ge : ∀ (l : List Int), (∀ x ∈ l, 0 ≤ x) → ∀ x ∈ l, x ≤ l.sum
  | [], _, x, h => by simp at h
  | y :: r, h, x, hx => by
    have h0 : ∀ z ∈ r, 0 ≤ z := fun z hz => h z (by simp [hz])
    have hs : 0 ≤ r.sum := by
      have : ∀ (l : List Int), (∀ z ∈ l, 0 ≤ z) → 0 ≤ l.sum := fun l => by
        induction l with
        | nil => intro _; simp
        | cons a b ih =>
          intro h
          have h1 := h a (by simp)
          have h2 := ih (fun z hz => h z (by simp [hz]))
          rw [List.sum_cons]; omega
      exact this r h0
    rw [List.sum_cons]
    rcases List.mem_cons.1 hx with rfl | hx
    · omega
    · have := sum_ge r h0 x hx
      have := h y (by simp)
      omega
theorem sum_inc (l : List Int) : (l.map (· + 1)).sum = l.sum + l.length := by
  induction l with
  | nil => simp
  | cons x r ih => rw [List.map_cons, List.sum_cons, ih, List.sum_cons, List.length_cons]; omega
theorem AInv.step {n k : Nat} {s : List Int × Nat} (hn : 0 < n) (h : AInv n k s) : AInv n (k + 1) (aStep 20 s) := by
  unfold aStep
  by_cases hs : s.1.sum > 20
  · rw [if_pos hs]
    refine ⟨by simp [h.len], ?_, ?_, fun e => by simp at e, by have := h.few; simp; omega⟩
    · intro x hx
      obtain ⟨z, hz, rfl⟩ := List.mem_map.1 hx
      have := h.bd z hz
      omega
    · intro x hx y hy
      obtain ⟨a, ha, rfl⟩ := List.mem_map.1 hx
      obtain ⟨b, hb, rfl⟩ := List.mem_map.1 hy
      have := h.near a ha b hb
      show a / 2 - b / 2 ≤ apart (s.2 + 1)
      rw [apart]; omega
  · rw [if_neg hs]
    have hge := sum_ge s.1 (fun x hx => (h.bd x hx).1)
    refine ⟨by simp [h.len], ?_, ?_, ?_, by have := h.few; omega⟩
    · intro x hx
      obtain ⟨z, hz, rfl⟩ := List.mem_map.1 hx
      have h1 := h.bd z hz
      have h2 := hge z hz
      omega
    · intro x hx y hy
      obtain ⟨a, ha, rfl⟩ := List.mem_map.1 hx
      obtain ⟨b, hb, rfl⟩ := List.mem_map.1 hy
      have := h.near a ha b hb
      show a + 1 - (b + 1) ≤ apart s.2
      omega
    · intro e
      obtain ⟨h1, h2⟩ := h.slow e
      have h3 := sum_inc s.1
      have h4 := h.len
      show ((k + 1 : Nat) : Int) ≤ (s.1.map (· + 1)).sum ∧ k + 1 ≤ 21
      rw [h3]
      omega
theorem aRun_inv {n : Nat} (hn : 0 < n) : ∀ (j k : Nat) (s : List Int × Nat), AInv n k s → AInv n (k + j) (aRun 20 j s)
  | 0, k, s, h => h
  | j + 1, k, s, h => by
    have := aRun_inv hn j (k + 1) _ (h.step hn)
    rw [show k + (j + 1) = k + 1 + j by omega]; exact this
theorem AInv.start {l : List Int} (h : ∀ x ∈ l, 0 ≤ x ∧ x ≤ 1000) : AInv l.length 0 (l, 0) := by
  refine ⟨rfl, h, fun x hx y hy => ?_, fun _ => ⟨?_, by omega⟩, Nat.le_refl _⟩
  · have := h x hx; have := h y hy; show x - y ≤ 1000; omega
  · show ((0 : Nat) : Int) ≤ l.sum
    have : ∀ (l : List Int), (∀ z ∈ l, 0 ≤ z ∧ z ≤ 1000) → 0 ≤ l.sum := fun l => by
      induction l with
      | nil => intro _; simp
      | cons a b ih =>
        intro h
        have h1 := h a (by simp)
        have h2 := ih (fun z hz => h z (by simp [hz]))
        rw [List.sum_cons]; omega
    exact this l h
/-- In the end. -/
theorem aimd_end {l : List Int} (hl : 0 < l.length) (h : ∀ x ∈ l, 0 ≤ x ∧ x ≤ 1000) : (aRun 20 400 (l, 0)).1.length = l.length ∧ (∀ x ∈ (aRun 20 400 (l, 0)).1, 0 ≤ x ∧ x ≤ 1000) ∧ 0 < (aRun 20 400 (l, 0)).2 ∧ (aRun 20 400 (l, 0)).2 ≤ 400 ∧
    (10 ≤ (aRun 20 400 (l, 0)).2 → ∀ x ∈ (aRun 20 400 (l, 0)).1, ∀ y ∈ (aRun 20 400 (l, 0)).1, x - y ≤ 1) := by
  have hi := aRun_inv hl 400 0 (l, 0) (AInv.start h)
  rw [Nat.zero_add] at hi
  generalize aRun 20 400 (l, 0) = s at *
  refine ⟨hi.len, hi.bd, ?_, hi.few, ?_⟩
  · rcases Nat.eq_zero_or_pos s.2 with h0 | h0
    · have := (hi.slow h0).2; omega
    · exact h0
  · intro h10 x hx y hy
    have := hi.near x hx y hy
    rw [show s.2 = 10 + (s.2 - 10) by omega, apart_le] at this
    exact this
end Go.Proofs.Ytciolkmhafdlpaa
