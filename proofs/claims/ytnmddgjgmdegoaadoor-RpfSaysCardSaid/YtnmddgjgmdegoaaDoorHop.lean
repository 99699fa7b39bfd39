/- Plain: the first hop as a function; the way over first hops (Seg); the cost between two neighbours. -/
import Derived.Test.YtnmddgjgmdegoaaDoorDij
import Derived.Test.YtnmddgjgmdegoaaDoorLnk
namespace Go.Proofs.YtnmddgjgmdegoaaDoor
set_option linter.unusedVariables false

def hopOf (n : Nat) (E : List Edge) (u v : Nat) : Int :=
  if u = v ∨ far E u v = 1000 then -1 else
  match (List.range n).find? (fun w => E.any fun e => decide (e.1 = u ∧ e.2.1 = w ∧ e.2.2 + far E w v = far E u v)) with
  | some w => (w : Int)
  | none => -1
theorem hopOf_of {n : Nat} {E : List Edge} {u v : Nat} {x : Int} (h : IsHop n E u v x) : x = hopOf n E u v := by
  unfold hopOf
  rcases h with ⟨h1, h2⟩ | ⟨⟨h1, h1'⟩, w, h2, h3, ⟨c, h4, h4'⟩, h5⟩
  · rw [if_pos h1]; exact h2
  · rw [if_neg (fun h => by rcases h with h | h; exact h1 h; omega)]
    have hf : (List.range n).find? (fun w => E.any fun e => decide (e.1 = u ∧ e.2.1 = w ∧ e.2.2 + far E w v = far E u v)) = some w := by
      rw [List.find?_range_eq_some]
      refine ⟨?_, List.mem_range.2 h3, fun j hj => ?_⟩
      · rw [List.any_eq_true]
        exact ⟨_, h4, by simpa using h4'⟩
      · rw [Bool.not_eq_true', Bool.eq_false_iff]
        intro h
        rw [List.any_eq_true] at h
        obtain ⟨⟨x1, x2, x3⟩, he, hd⟩ := h
        simp only [decide_eq_true_eq] at hd
        obtain ⟨rfl, rfl, hd⟩ := hd
        have := h5 _ _ he hd
        omega
    rw [hf]
    exact h2

/-- The way over first hops to t, from s to u; u itself is not in the list yet. -/
inductive Seg (n : Nat) (E : List Edge) (t : Nat) : Nat → List Nat → Nat → Prop
  | nil (s : Nat) : Seg n E t s [] s
  | snoc {s u w : Nat} {l : List Nat} : Seg n E t s l u → u ≠ t → far E u t < 1000 → IsHop n E u t (w : Int) → Seg n E t s (l ++ [u]) w

/-- The least cost of a link between two neighbours, as the text reckons it. -/
def cstI (a b : Int) : List Lnk → Int → Int
  | [], best => best
  | x :: r, best => cstI a b r (if ((x.1 = a ∧ x.2.1 = b) ∨ (x.1 = b ∧ x.2.1 = a)) ∧ x.2.2 < best then x.2.2 else best)
theorem cstI_yes {a b best : Int} {L : List Lnk} {k : Nat} {x : Lnk} (h : L[k]? = some x) (hc : ((x.1 = a ∧ x.2.1 = b) ∨ (x.1 = b ∧ x.2.1 = a)) ∧ x.2.2 < best) : cstI a b (L.drop k) best = cstI a b (L.drop (k + 1)) x.2.2 := by
  have hk := List.getElem?_eq_some_iff.1 h
  rw [List.drop_eq_getElem_cons hk.1, hk.2, cstI, if_pos hc]
theorem cstI_no {a b best : Int} {L : List Lnk} {k : Nat} {x : Lnk} (h : L[k]? = some x) (hc : ¬ (((x.1 = a ∧ x.2.1 = b) ∨ (x.1 = b ∧ x.2.1 = a)) ∧ x.2.2 < best)) : cstI a b (L.drop k) best = cstI a b (L.drop (k + 1)) best := by
  have hk := List.getElem?_eq_some_iff.1 h
  rw [List.drop_eq_getElem_cons hk.1, hk.2, cstI, if_neg hc]
theorem cstI_spec (a b : Int) : ∀ (L : List Lnk) (best : Int), cstI a b L best ≤ best ∧ (∀ x ∈ L, ((x.1 = a ∧ x.2.1 = b) ∨ (x.1 = b ∧ x.2.1 = a)) → cstI a b L best ≤ x.2.2) ∧
    (cstI a b L best = best ∨ ∃ x ∈ L, ((x.1 = a ∧ x.2.1 = b) ∨ (x.1 = b ∧ x.2.1 = a)) ∧ cstI a b L best = x.2.2)
  | [], best => ⟨Int.le_refl _, fun _ h => absurd h List.not_mem_nil, .inl rfl⟩
  | x :: r, best => by
    rw [cstI]
    by_cases hc : ((x.1 = a ∧ x.2.1 = b) ∨ (x.1 = b ∧ x.2.1 = a)) ∧ x.2.2 < best
    · rw [if_pos hc]
      obtain ⟨h1, h2, h3⟩ := cstI_spec a b r x.2.2
      refine ⟨by omega, fun y hy hyc => ?_, ?_⟩
      · rcases List.mem_cons.1 hy with rfl | hy
        · exact h1
        · exact h2 y hy hyc
      · right
        rcases h3 with h3 | ⟨y, hy, hyc, h3⟩
        · exact ⟨x, List.mem_cons_self .., hc.1, h3⟩
        · exact ⟨y, List.mem_cons_of_mem _ hy, hyc, h3⟩
    · rw [if_neg hc]
      obtain ⟨h1, h2, h3⟩ := cstI_spec a b r best
      refine ⟨h1, fun y hy hyc => ?_, ?_⟩
      · rcases List.mem_cons.1 hy with rfl | hy
        · have : ¬ y.2.2 < best := fun h => hc ⟨hyc, h⟩
          omega
        · exact h2 y hy hyc
      · rcases h3 with h3 | ⟨y, hy, hyc, h3⟩
        · exact .inl h3
        · exact .inr ⟨y, List.mem_cons_of_mem _ hy, hyc, h3⟩
/-- .. between two points. -/
def cst (L : List Lnk) (u v : Nat) : Int := cstI u v L 1000
theorem cst_spec {n : Nat} {L : List Lnk} (h : VOk n L) {u v : Nat} : cst L u v ≤ 1000 ∧ (∀ c, (u, v, c) ∈ edges L → cst L u v ≤ c) ∧ (cst L u v = 1000 ∨ (u, v, cst L u v) ∈ edges L) := by
  obtain ⟨h1, h2, h3⟩ := cstI_spec u v L 1000
  refine ⟨h1, fun c he => ?_, ?_⟩
  · obtain ⟨x, hx, he⟩ := mem_edges.1 he
    have hok := h.each x hx
    unfold LOk at hok
    have := h2 x hx (by
      rcases he with he | he
      · simp only [Prod.mk.injEq] at he; left; omega
      · simp only [Prod.mk.injEq] at he; right; omega)
    rcases he with he | he
    · simp only [Prod.mk.injEq] at he; rw [he.2.2]; exact this
    · simp only [Prod.mk.injEq] at he; rw [he.2.2]; exact this
  · rcases h3 with h3 | ⟨x, hx, hc, h3⟩
    · exact .inl h3
    · right
      have hok := h.each x hx
      unfold LOk at hok
      refine mem_edges.2 ⟨x, hx, ?_⟩
      unfold cst
      rw [h3]
      rcases hc with hc | hc
      · left; rw [show x.1.toNat = u by omega, show x.2.1.toNat = v by omega]
      · right; rw [show x.1.toNat = v by omega, show x.2.1.toNat = u by omega]
theorem cst_edge {n : Nat} {L : List Lnk} (h : VOk n L) {u v : Nat} (hne : ¬ cst L u v = 1000) : (u, v, cst L u v) ∈ edges L := (cst_spec h).2.2.resolve_left hne
theorem cst_lt {n : Nat} {L : List Lnk} (h : VOk n L) {u v : Nat} {c : Int} (he : (u, v, c) ∈ edges L) : cst L u v ≤ c ∧ cst L u v ≤ 20 := by
  have h1 := (cst_spec h).2.1 c he
  have h2 := h.net.dom _ _ _ he
  omega
/-- The first hop, by the cheapest link. -/
theorem hop_cst {n : Nat} {L : List Lnk} (h : VOk n L) {u v w : Nat} {c : Int} (hv : v < n) (he : (u, w, c) ∈ edges L) (ht : c + far (edges L) w v = far (edges L) u v) : cst L u w + far (edges L) w v = far (edges L) u v := by
  have h1 := (cst_lt h he)
  have h2 := far_edge h.net h.n8 hv (cst_edge h (u := u) (v := w) (by omega))
  omega
end Go.Proofs.YtnmddgjgmdegoaaDoor
