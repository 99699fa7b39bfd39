/- Plain: one link more. -/
import Derived.Test.YtnmddgjgmdegoaaHop
namespace Go.Proofs.Ytnmddgjgmdegoaa
set_option linter.unusedVariables false

theorem Wk.mono {E E' : List Edge} (hs : ∀ e ∈ E, e ∈ E') {k u v : Nat} {d : Int} (h : Wk E k u v d) : Wk E' k u v d := by
  induction h with
  | nil u => exact Wk.nil u
  | cons he _ ih => exact Wk.cons (hs _ he) ih
theorem far_mono {n : Nat} {E E' : List Edge} (hn : Net n E) (hn' : Net n E') (hs : ∀ e ∈ E, e ∈ E') {u v : Nat} : far E' u v ≤ far E u v := by
  rcases (far_lst hn (u := u) (v := v)).1 with h | ⟨j, hj, hw⟩
  · rw [h]; exact far_le hn'
  · exact (far_lst hn').2.2 j _ hj (hw.mono hs)
theorem far_last {n : Nat} {E : List Edge} (hn : Net n E) (h8 : n ≤ 8) {o w v : Nat} {c : Int} (hw : w < n) (hv : v < n) (he : (w, v, c) ∈ E) : far E o v ≤ far E o w + c := by
  have h1 := far_tri hn h8 (u := o) (w := w) (v := v) hw hv
  have h2 := far_edge hn h8 (v := v) hv he
  rw [far_self hn] at h2
  omega
theorem far_same {n : Nat} {E E' : List Edge} (hn : Net n E) (hn' : Net n E') (h8 : n ≤ 8) (hs : ∀ e ∈ E, e ∈ E') {x y o : Nat} {z : Int} (hE : ∀ u v c, (u, v, c) ∈ E' → (u, v, c) ∈ E ∨ (u = x ∧ v = y ∧ c = z) ∨ (u = y ∧ v = x ∧ c = z))
    (h1 : far E o y ≤ far E o x + z) (h2 : far E o x ≤ far E o y + z) (ho : o < n) {v : Nat} (hv : v < n) : far E' o v = far E o v := by
  have hw : ∀ (k v : Nat) (d : Int), v < n → Wk E' k o v d → far E o v ≤ d := by
    intro k
    induction k with
    | zero => intro v d hv h; obtain ⟨rfl, rfl⟩ := h.zero; rw [far_self hn]; exact Int.le_refl _
    | succ k ih =>
      intro v d hv h
      obtain ⟨w, c, d', hw, he, rfl⟩ := h.last
      have hdom := hn'.dom _ _ _ he
      have h3 := ih w d' hdom.1 hw
      rcases hE _ _ _ he with he | ⟨rfl, rfl, rfl⟩ | ⟨rfl, rfl, rfl⟩
      · have := far_last hn h8 (o := o) hdom.1 hv he; omega
      · omega
      · omega
  have hle := far_mono hn hn' hs (u := o) (v := v)
  rcases (far_lst hn' (u := o) (v := v)).1 with h | ⟨j, hj, hwk⟩
  · have := far_le hn (u := o) (v := v); omega
  · have := hw j v _ hv hwk; omega
theorem edges_append (L : List Lnk) (x : Lnk) : edges (L ++ [x]) = edges L ++ edgesOf x := by unfold edges; simp
theorem VOk.less {n : Nat} {L : List Lnk} {x : Lnk} (h : VOk n (L ++ [x])) : LOk n x := h.each x (by simp)
theorem more_edges {L : List Lnk} {x y : Nat} {z : Int} : (∀ e ∈ edges L, e ∈ edges (L ++ [((x : Int), (y : Int), z)])) ∧
    ∀ u v c, (u, v, c) ∈ edges (L ++ [((x : Int), (y : Int), z)]) → (u, v, c) ∈ edges L ∨ (u = x ∧ v = y ∧ c = z) ∨ (u = y ∧ v = x ∧ c = z) := by
  rw [edges_append]
  refine ⟨fun e he => List.mem_append_left _ he, fun u v c he => ?_⟩
  rcases List.mem_append.1 he with he | he
  · exact .inl he
  · right
    unfold edgesOf at he
    simp only [Int.toNat_natCast, List.mem_cons, Prod.mk.injEq, List.not_mem_nil, or_false] at he
    exact he
end Go.Proofs.Ytnmddgjgmdegoaa
