/- Plain: what holds along the way over first hops. -/
import Derived.Test.YtciolkmhafdlpaaDoorHop
namespace Go.Proofs.YtciolkmhafdlpaaDoor
set_option linter.unusedVariables false

theorem Seg.first {n : Nat} {E : List Edge} {t s u : Nat} {l : List Nat} (h : Seg n E t s l u) : (l ++ [u])[0]? = some s := by
  induction h with
  | nil => rfl
  | @snoc u w l hs hu hf hh ih => rw [List.getElem?_append_left (by simp)]; exact ih
/-- One step: the next one is the first hop. -/
theorem Seg.step {n : Nat} {E : List Edge} {t s u : Nat} {l : List Nat} (h : Seg n E t s l u) : ∀ (i a b : Nat), (l ++ [u])[i]? = some a → (l ++ [u])[i + 1]? = some b → a ≠ t ∧ far E a t < 1000 ∧ IsHop n E a t (b : Int) := by
  induction h with
  | nil => intro i a b _ hb; rw [List.getElem?_eq_none (by simp)] at hb; cases hb
  | @snoc u w l hs hu hf hh ih =>
    intro i a b ha hb
    rcases Nat.lt_or_ge (i + 1) (l ++ [u]).length with hl | hl
    · rw [List.getElem?_append_left (by omega)] at ha
      rw [List.getElem?_append_left hl] at hb
      exact ih i a b ha hb
    · have h1 := (List.getElem?_eq_some_iff.1 hb).1
      simp only [List.length_append, List.length_cons, List.length_nil] at hl h1
      obtain rfl : i = l.length := by omega
      rw [List.getElem?_append_left (by simp), List.getElem?_append_right (Nat.le_refl _), Nat.sub_self] at ha
      rw [List.getElem?_append_right (by simp), show l.length + 1 - (l ++ [u]).length = 0 by simp] at hb
      simp at ha hb
      subst ha hb
      exact ⟨hu, hf, hh⟩
theorem Seg.all {n : Nat} {E : List Edge} {t s u : Nat} {l : List Nat} (h : Seg n E t s l u) (hs : s < n) : ∀ x ∈ l ++ [u], x < n := by
  induction h with
  | nil => intro x hx; simp at hx; subst hx; exact hs
  | @snoc u w l h1 hu hf hh ih =>
    intro x hx
    rcases List.mem_append.1 hx with hx | hx
    · exact ih x hx
    · simp at hx; subst hx
      rcases hh with ⟨_, h⟩ | ⟨_, y, h, hy, _⟩
      · omega
      · omega
/-- A step costs what it brings nearer. -/
theorem hop_step {n : Nat} {L : List Lnk} (h : VOk n L) {a b t : Nat} (ht : t < n) (hf : far (edges L) a t < 1000) (ha : a ≠ t) (hh : IsHop n (edges L) a t (b : Int)) :
    b < n ∧ cst L a b + far (edges L) b t = far (edges L) a t ∧ ¬ cst L a b = 1000 ∧ 1 ≤ cst L a b ∧ cst L a b ≤ 20 := by
  rcases hh with ⟨h1 | h1, _⟩ | ⟨_, y, hy, hyn, ⟨c, he, hc⟩, _⟩
  · exact absurd h1 ha
  · omega
  · obtain rfl : b = y := by omega
    have h1 := cst_lt h he
    have h2 := h.net.dom _ _ _ (cst_edge h (u := a) (v := b) (by omega))
    exact ⟨hyn, hop_cst h ht he hc, by omega, by omega, h1.2⟩
theorem Seg.falls {n : Nat} {L : List Lnk} (hv : VOk n L) {t s u : Nat} {l : List Nat} (ht : t < n) (h : Seg n (edges L) t s l u) : ∀ (k i : Nat) (a b : Nat), (l ++ [u])[i]? = some a → (l ++ [u])[i + 1 + k]? = some b → far (edges L) b t < far (edges L) a t
  | 0, i, a, b, ha, hb => by
    obtain ⟨h1, h2, h3⟩ := h.step i a b ha hb
    have := hop_step hv ht h2 h1 h3
    omega
  | k + 1, i, a, b, ha, hb => by
    have hlt := (List.getElem?_eq_some_iff.1 hb).1
    obtain ⟨c, hc⟩ : ∃ c, (l ++ [u])[i + 1 + k]? = some c := ⟨_, List.getElem?_eq_getElem (by omega)⟩
    have e1 := Seg.falls hv ht h k i a c ha hc
    obtain ⟨h1, h2, h3⟩ := h.step (i + 1 + k) c b hc (by rw [← hb]; rfl)
    have := hop_step hv ht h2 h1 h3
    omega
/-- Nobody comes twice. -/
theorem Seg.once {n : Nat} {L : List Lnk} (hv : VOk n L) {t s u : Nat} {l : List Nat} (ht : t < n) (h : Seg n (edges L) t s l u) {i b : Nat} (hb : (l ++ [u])[i]? = some b) : ¬ b ∈ (l ++ [u]).take i := by
  intro hm
  obtain ⟨j, hj⟩ := List.mem_iff_getElem?.1 hm
  rw [List.getElem?_take] at hj
  split at hj
  · next hji =>
    have := Seg.falls hv ht h (i - j - 1) j b b hj (by rw [show j + 1 + (i - j - 1) = i by omega]; exact hb)
    omega
  · cases hj
end Go.Proofs.YtciolkmhafdlpaaDoor
