/- Plain: roots and hops of nets with the same edges, or with only those that the tree goes over; the way to the root. -/
import Derived.Test.YtnmddgjgmdegoaaStpPlain
import Derived.Test.YtnmddgjgmdegoaaMore
namespace Go.Proofs.Ytnmddgjgmdegoaa
set_option linter.unusedVariables false

theorem far_set {n : Nat} {E E' : List Edge} (hn : Net n E) (hn' : Net n E') (hs : ∀ e, e ∈ E ↔ e ∈ E') (u v : Nat) : far E u v = far E' u v := by
  have h1 := far_mono hn hn' (fun e h => (hs e).1 h) (u := u) (v := v)
  have h2 := far_mono hn' hn (fun e h => (hs e).2 h) (u := u) (v := v)
  omega
theorem rootF_set {n : Nat} {E E' : List Edge} (hn : Net n E) (hn' : Net n E') (hs : ∀ e, e ∈ E ↔ e ∈ E') (i : Nat) : rootF n E i = rootF n E' i := by
  unfold rootF
  rw [show (fun k => decide (far E i k < 1000)) = (fun k => decide (far E' i k < 1000)) from funext fun k => by rw [far_set hn hn' hs]]
theorem hopOf_set {n : Nat} {E E' : List Edge} (hn : Net n E) (hn' : Net n E') (hs : ∀ e, e ∈ E ↔ e ∈ E') (u v : Nat) : hopOf n E u v = hopOf n E' u v := by
  unfold hopOf
  have hf : (fun w => E.any fun e => decide (e.1 = u ∧ e.2.1 = w ∧ e.2.2 + far E w v = far E u v)) = (fun w => E'.any fun e => decide (e.1 = u ∧ e.2.1 = w ∧ e.2.2 + far E' w v = far E' u v)) := funext fun w => by
    rw [far_set hn hn' hs w v, far_set hn hn' hs u v, Bool.eq_iff_iff, List.any_eq_true, List.any_eq_true]
    constructor
    · rintro ⟨e, he, h⟩; exact ⟨e, (hs e).1 he, h⟩
    · rintro ⟨e, he, h⟩; exact ⟨e, (hs e).2 he, h⟩
  rw [hf, far_set hn hn' hs u v]
theorem hopOf_spec {n : Nat} {E : List Edge} (hn : Net n E) (h8 : n ≤ 8) {u v : Nat} (hv : v < n) : IsHop n E u v (hopOf n E u v) := by
  by_cases h1 : u = v ∨ far E u v = 1000
  · refine .inl ⟨h1, ?_⟩
    unfold hopOf
    rw [if_pos h1]
  · have h2 : u ≠ v := fun e => h1 (.inl e)
    have h3 : far E u v < 1000 := by
      have := far_le hn (u := u) (v := v)
      have : ¬ far E u v = 1000 := fun e => h1 (.inr e)
      omega
    obtain ⟨w, c, he, hc⟩ := far_first hn h8 hv h2 h3
    refine .inr ⟨⟨h2, h3⟩, ?_⟩
    unfold hopOf
    rw [if_neg h1]
    cases hf : (List.range n).find? (fun w => E.any fun e => decide (e.1 = u ∧ e.2.1 = w ∧ e.2.2 + far E w v = far E u v)) with
    | none =>
      exfalso
      have := List.find?_eq_none.1 hf w (List.mem_range.2 (hn.dom _ _ _ he).2.1)
      apply this
      rw [List.any_eq_true]
      exact ⟨_, he, by simpa using hc⟩
    | some x =>
      rw [List.find?_range_eq_some] at hf
      obtain ⟨f1, f2, f3⟩ := hf
      rw [List.any_eq_true] at f1
      obtain ⟨⟨x1, x2, x3⟩, g1, g2⟩ := f1
      simp only [decide_eq_true_eq] at g2
      obtain ⟨rfl, rfl, g2⟩ := g2
      refine ⟨x2, rfl, List.mem_range.1 f2, ⟨x3, g1, g2⟩, fun w' c' he' hc' => ?_⟩
      rcases Nat.lt_or_ge w' x2 with hl | hl
      · exfalso
        have := f3 w' hl
        rw [Bool.not_eq_true', Bool.eq_false_iff] at this
        apply this
        rw [List.any_eq_true]
        exact ⟨_, he', by simpa using hc'⟩
      · exact hl
/-- The hop towards the root. -/
theorem hop_root {n : Nat} {E : List Edge} (hn : Net n E) (h8 : n ≤ 8) {i : Nat} (hi : i < n) :
    (rootF n E i = i ∧ hopOf n E i (rootF n E i) = -1) ∨ (rootF n E i ≠ i ∧ ∃ (j : Nat) (c : Int), hopOf n E i (rootF n E i) = (j : Int) ∧ j < n ∧ (i, j, c) ∈ E ∧ c + far E j (rootF n E i) = far E i (rootF n E i) ∧ rootF n E j = rootF n E i) := by
  obtain ⟨a1, a2, a3⟩ := rootF_spec hn hi
  rcases hopOf_spec hn h8 a1 (u := i) with ⟨h1, h2⟩ | ⟨⟨h1, h1'⟩, w, h2, h3, ⟨c, h4, h4'⟩, h5⟩
  · rcases h1 with h1 | h1
    · exact .inl ⟨h1.symm, h2⟩
    · omega
  · exact .inr ⟨fun e => h1 e.symm, w, c, h2, h3, h4, h4', (rootF_edge hn h8 h4).symm⟩
theorem rootF_self {n : Nat} {E : List Edge} (hn : Net n E) (h8 : n ≤ 8) {i : Nat} (hi : i < n) : rootF n E (rootF n E i) = rootF n E i := by
  obtain ⟨a1, a2, a3⟩ := rootF_spec hn hi
  obtain ⟨b1, b2, b3⟩ := rootF_spec hn a1
  have h1 : rootF n E (rootF n E i) ≤ rootF n E i := rootF_le hn a1
  have h2 := far_tri hn h8 a1 b1 (u := i)
  have h3 := far_short hn h8 a1 a2
  have h4 := far_short hn h8 b1 b2
  have := a3 _ b1 (by omega)
  omega
/-- Fewer links: the tree stays when the links of the tree stay. -/
theorem keep_far {n : Nat} {E E' : List Edge} (hn : Net n E) (hn' : Net n E') (h8 : n ≤ 8) (hs : ∀ e ∈ E', e ∈ E)
    (hk : ∀ (i j : Nat), i < n → hopOf n E i (rootF n E i) = (j : Int) → ∃ c, (i, j, c) ∈ E' ∧ c + far E j (rootF n E i) = far E i (rootF n E i))
    (m : Nat) : ∀ i : Nat, i < n → (far E i (rootF n E i)).toNat ≤ m → far E' i (rootF n E i) = far E i (rootF n E i) := by
  induction m with
  | zero =>
    intro i hi hm
    rcases hop_root hn h8 hi with ⟨h1, h2⟩ | ⟨h1, j, c, h2, h3, h4, h5, h6⟩
    · rw [h1, far_self hn, far_self hn']
    · have hd := hn.dom _ _ _ h4
      have hnn := far_nonneg hn (u := j) (v := rootF n E i)
      omega
  | succ m ih =>
    intro i hi hm
    have hle := far_mono hn' hn hs (u := i) (v := rootF n E i)
    rcases hop_root hn h8 hi with ⟨h1, h2⟩ | ⟨h1, j, c, h2, h3, h4, h5, h6⟩
    · rw [h1, far_self hn, far_self hn']
    · obtain ⟨a1, a2, a3⟩ := rootF_spec hn hi
      obtain ⟨c', g1, g2⟩ := hk i j hi h2
      have hd := hn'.dom _ _ _ g1
      have ih := ih j h3 (by rw [h6]; omega)
      rw [h6] at ih
      have := far_edge hn' h8 a1 g1
      omega
theorem keep_all {n : Nat} {E E' : List Edge} (hn : Net n E) (hn' : Net n E') (h8 : n ≤ 8) (hs : ∀ e ∈ E', e ∈ E)
    (hk : ∀ (i j : Nat), i < n → hopOf n E i (rootF n E i) = (j : Int) → ∃ c, (i, j, c) ∈ E' ∧ c + far E j (rootF n E i) = far E i (rootF n E i)) {i : Nat} (hi : i < n) :
    rootF n E' i = rootF n E i ∧ far E' i (rootF n E i) = far E i (rootF n E i) ∧ hopOf n E' i (rootF n E i) = hopOf n E i (rootF n E i) := by
  have hf : ∀ i, i < n → far E' i (rootF n E i) = far E i (rootF n E i) := fun i hi => keep_far hn hn' h8 hs hk _ i hi (Nat.le_refl _)
  obtain ⟨a1, a2, a3⟩ := rootF_spec hn hi
  obtain ⟨b1, b2, b3⟩ := rootF_spec hn' hi
  refine ⟨?_, hf i hi, ?_⟩
  · have h1 := b3 _ a1 (by rw [hf i hi]; exact a2)
    have h2 := far_mono hn' hn hs (u := i) (v := rootF n E' i)
    have h3 := a3 _ b1 (by omega)
    omega
  · refine (hopOf_of ?_).symm
    rcases hop_root hn h8 hi with ⟨h1, h2⟩ | ⟨h1, j, c, h2, h3, h4, h5, h6⟩
    · exact .inl ⟨.inl h1.symm, h2⟩
    · obtain ⟨c', g1, g2⟩ := hk i j hi h2
      have e1 := hf i hi
      have e2 := hf j h3
      rw [h6] at e2
      refine .inr ⟨⟨fun e => h1 e.symm, by omega⟩, j, h2, h3, ⟨c', g1, by omega⟩, fun w' c'' he' hc' => ?_⟩
      have hd := hn'.dom _ _ _ he'
      have e3 := hf w' hd.2.1
      rw [← rootF_edge hn h8 (hs _ he')] at e3
      rcases hopOf_spec hn h8 a1 (u := i) with ⟨k1, k2⟩ | ⟨_, w, k2, k3, _, k5⟩
      · rcases k1 with k1 | k1
        · exact absurd k1.symm h1
        · omega
      · have := k5 w' c'' (hs _ he') (by omega)
        omega

/-- How many there are that are so. -/
theorem cntD_less {d e : Nat → Bool} {a : Nat} : ∀ {n : Nat}, (∀ x, x < n → d x = true → e x = true) → cntD d n ≤ cntD e n ∧ (a < n → d a = false → e a = true → cntD d n < cntD e n)
  | 0, h => ⟨Nat.le_refl _, fun h => absurd h (Nat.not_lt_zero _)⟩
  | n + 1, h => by
    obtain ⟨h1, h2⟩ := cntD_less (d := d) (e := e) (a := a) (n := n) (fun x hx => h x (by omega))
    have h3 := h n (by omega)
    simp only [cntD]
    refine ⟨?_, fun ha hd he => ?_⟩
    · cases hdn : d n
      · simp; omega
      · rw [h3 hdn]; simp; omega
    · by_cases e1 : a = n
      · subst e1; rw [hd, he]; simp; omega
      · have := h2 (by omega) hd he
        cases hdn : d n
        · simp; omega
        · rw [h3 hdn]; simp; omega
/-- How many lie nearer to a point. -/
def rankF (n : Nat) (E : List Edge) (r a : Nat) : Nat := cntD (fun u => decide (far E u r < far E a r)) n
theorem rankF_less {n : Nat} {E : List Edge} {r a b : Nat} (hb : b < n) (h : far E b r < far E a r) : rankF n E r b < rankF n E r a := by
  refine (cntD_less (a := b) (fun x _ hx => ?_)).2 hb ?_ ?_
  · simp only [decide_eq_true_eq] at hx ⊢; omega
  · simp
  · simpa using h
theorem rankF_top {n : Nat} {E : List Edge} {r a : Nat} (ha : a < n) : rankF n E r a < n := by
  have h := (cntD_less (d := fun u => decide (far E u r < far E a r)) (e := fun _ => true) (a := a) (n := n) (fun _ _ _ => rfl)).2 ha (by simp) rfl
  have := cntD_le (fun _ => true) n
  unfold rankF
  omega
end Go.Proofs.Ytnmddgjgmdegoaa
