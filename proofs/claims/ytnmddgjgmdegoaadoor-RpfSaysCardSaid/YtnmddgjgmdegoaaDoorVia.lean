/- Plain: over which neighbours shortest ways go (split from XHopRef). -/
import Derived.Test.YtnmddgjgmdegoaaDoorHop
namespace Go.Proofs.YtnmddgjgmdegoaaDoor
set_option linter.unusedVariables false

/-- Over this one a shortest way goes. -/
def Via (L : List Lnk) (u v x : Nat) : Prop := cst L u x < 1000 ∧ cst L u x + far (edges L) v x = far (edges L) v u
theorem via_edge {n : Nat} {L : List Lnk} (h : VOk n L) {u v x : Nat} {c : Int} (hv : v < n) (he : (u, x, c) ∈ edges L) (hc : c + far (edges L) x v = far (edges L) u v) : Via L u v x := by
  have h1 := hop_cst h hv he hc
  have h2 := (cst_lt h he).2
  exact ⟨by omega, by rw [far_swap h.net (u := v) (v := x), far_swap h.net (u := v) (v := u)]; exact h1⟩
theorem via_hop {n : Nat} {L : List Lnk} (h : VOk n L) {u v x : Nat} (hv : v < n) (hx : x < n) (hne : u ≠ v) (hf : far (edges L) v u ≠ 1000) (hvia : Via L u v x) (hleast : ∀ y, y < x → ¬ Via L u v y) : hopOf n (edges L) u v = (x : Int) := by
  have hle := far_le h.net (u := v) (v := u)
  refine (hopOf_of (.inr ⟨⟨hne, ?_⟩, x, rfl, hx, ⟨cst L u x, cst_edge h (by have := hvia.1; omega), ?_⟩, fun w' c' he' hc' => ?_⟩)).symm
  · rw [far_swap h.net]; omega
  · rw [far_swap h.net (u := x) (v := v), far_swap h.net (u := u) (v := v)]; exact hvia.2
  · rcases Nat.lt_or_ge w' x with hl | hl
    · exact absurd (via_edge h hv he' hc') (hleast w' hl)
    · exact hl
theorem via_some {n : Nat} {L : List Lnk} (h : VOk n L) {u v : Nat} (hv : v < n) (hne : u ≠ v) (hf : far (edges L) v u ≠ 1000) : ∃ x, x < n ∧ Via L u v x := by
  have hle := far_le h.net (u := v) (v := u)
  obtain ⟨x, c, he, hc⟩ := far_first h.net h.n8 hv hne (by rw [far_swap h.net]; omega)
  exact ⟨x, (h.net.dom _ _ _ he).2.1, via_edge h hv he hc⟩
theorem via_self {n : Nat} {L : List Lnk} (h : VOk n L) {u v : Nat} : ¬ Via L u v u := fun hv => by
  have := h.net.dom _ _ _ (cst_edge h (u := u) (v := u) (by have := hv.1; omega))
  exact this.2.2.1 rfl
end Go.Proofs.YtnmddgjgmdegoaaDoor
