/- Plain: links that all cost the same; how many links there are to one. -/
import Derived.Test.YtkheccnjcaljdaaLnk
namespace Go.Proofs.Ytkheccnjcaljdaa
set_option linter.unusedVariables false

def evenL (L : List Lnk) : List Lnk := L.map fun x => (x.1, x.2.1, 1)
theorem evenL_take (L : List Lnk) (k : Nat) : evenL (L.take k) = (evenL L).take k := by unfold evenL; rw [List.map_take]
theorem evenL_succ {L : List Lnk} {k : Nat} {x : Lnk} (h : L[k]? = some x) : evenL (L.take (k + 1)) = evenL (L.take k) ++ [(x.1, x.2.1, 1)] := by
  unfold evenL; rw [List.take_add_one, h]; simp
theorem VOk.even {n : Nat} {L : List Lnk} (h : VOk n L) : VOk n (evenL L) := by
  refine ⟨h.n1, h.n8, by unfold evenL; rw [List.length_map]; exact h.few, fun x hx => ?_⟩
  unfold evenL at hx
  obtain ⟨y, hy, rfl⟩ := List.mem_map.1 hx
  have := h.each y hy
  unfold LOk at this ⊢
  simp only
  omega
theorem even_edge {L : List Lnk} {u v : Nat} {c : Int} (h : (u, v, c) ∈ edges L) : (u, v, 1) ∈ edges (evenL L) := by
  obtain ⟨x, hx, he⟩ := mem_edges.1 h
  refine mem_edges.2 ⟨(x.1, x.2.1, 1), List.mem_map.2 ⟨x, hx, rfl⟩, ?_⟩
  simp only [Prod.mk.injEq] at he ⊢
  rcases he with he | he
  · left; exact ⟨he.1, he.2.1, trivial⟩
  · right; exact ⟨he.1, he.2.1, trivial⟩
theorem edge_even {L : List Lnk} {u v : Nat} {c : Int} (h : (u, v, c) ∈ edges (evenL L)) : c = 1 ∧ ∃ d, (u, v, d) ∈ edges L := by
  obtain ⟨x, hx, he⟩ := mem_edges.1 h
  obtain ⟨y, hy, rfl⟩ := List.mem_map.1 hx
  simp only [Prod.mk.injEq] at he
  rcases he with he | he
  · exact ⟨he.2.2, y.2.2, mem_edges.2 ⟨y, hy, .inl (by simp only [Prod.mk.injEq]; exact ⟨he.1, he.2.1, trivial⟩)⟩⟩
  · exact ⟨he.2.2, y.2.2, mem_edges.2 ⟨y, hy, .inr (by simp only [Prod.mk.injEq]; exact ⟨he.1, he.2.1, trivial⟩)⟩⟩
theorem Wk.even {L : List Lnk} {k u v : Nat} {d : Int} (h : Wk (edges L) k u v d) : Wk (edges (evenL L)) k u v (k : Int) := by
  induction h with
  | nil u => exact Wk.nil u
  | @cons k u w v c d he _ ih =>
    have := Wk.cons (even_edge he) ih
    rw [show ((k + 1 : Nat) : Int) = 1 + (k : Int) by omega]
    exact this
theorem Wk.uneven {L : List Lnk} {k u v : Nat} {d : Int} (h : Wk (edges (evenL L)) k u v d) : d = (k : Int) ∧ ∃ d', Wk (edges L) k u v d' := by
  induction h with
  | nil u => exact ⟨rfl, 0, Wk.nil u⟩
  | cons he _ ih =>
    obtain ⟨rfl, d, hd⟩ := edge_even he
    obtain ⟨rfl, d', hw⟩ := ih
    exact ⟨by omega, _, Wk.cons hd hw⟩
theorem reach_iff {n : Nat} {L : List Lnk} (h : VOk n L) {t i j : Nat} (ht : t ≤ 20) (hj : j < n) : bell (edges L) t i j < 1000 ↔ far (edges (evenL L)) i j ≤ (t : Int) := by
  constructor
  · intro hb
    rcases (bell_lst h.net t i j).1 with h' | ⟨k, hk, hw⟩
    · omega
    · have := (far_dst h.even.net h.n8 hj : Dst _ i j _).2.2 _ _ hw.even
      omega
  · intro hf
    rcases (far_dst h.even.net h.n8 hj : Dst _ i j _).1 with h' | ⟨k, hw⟩
    · omega
    · obtain ⟨he, d', hw'⟩ := hw.uneven
      have h1 := (bell_lst h.net t i j).2.2 k d' (by omega) hw'
      have h2 := hw'.top h.net
      omega
end Go.Proofs.Ytkheccnjcaljdaa
