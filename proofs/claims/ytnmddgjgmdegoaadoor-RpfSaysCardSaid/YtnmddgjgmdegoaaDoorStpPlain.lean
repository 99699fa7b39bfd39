/- Plain: what the bridges say round by round, and what that comes to: the least point that one can reach, how far it is, over which neighbour. -/
import Derived.Test.YtnmddgjgmdegoaaDoorHop
import Derived.Test.YtnmddgjgmdegoaaDoorLessPlain
namespace Go.Proofs.YtnmddgjgmdegoaaDoor
set_option linter.unusedVariables false

abbrev Word := Int × Int × Int
def Lx (a b : Word) : Prop := a.1 < b.1 ∨ (a.1 = b.1 ∧ (a.2.1 < b.2.1 ∨ (a.2.1 = b.2.1 ∧ a.2.2 < b.2.2)))
theorem Lx.trans_not {a m y : Word} (h1 : ¬ Lx a m) (h2 : ¬ Lx m y) : ¬ Lx a y := by unfold Lx at *; omega
theorem Lx.irrefl (a : Word) : ¬ Lx a a := by unfold Lx; omega
theorem Lx.anti {a b : Word} (h1 : ¬ Lx a b) (h2 : ¬ Lx b a) : a = b := by
  unfold Lx at *
  obtain ⟨a1, a2, a3⟩ := a
  obtain ⟨b1, b2, b3⟩ := b
  simp only at h1 h2
  simp only [Prod.mk.injEq]
  omega

/-- What is heard over an edge. -/
def heard (f : Nat → Int × Int) (e : Edge) : Word := ((f e.2.1).1, (f e.2.1).2 + e.2.2, (e.2.1 : Int))
def hear (f : Nat → Int × Int) (i : Nat) (s : Word × Int) (e : Edge) : Word × Int := if e.1 = i ∧ lessI (heard f e) s.1 < 0 then (heard f e, (e.2.1 : Int)) else s
theorem hears_spec (f : Nat → Int × Int) (i : Nat) : ∀ (E : List Edge) (s : Word × Int), ¬ Lx s.1 (E.foldl (hear f i) s).1 ∧ (∀ e ∈ E, e.1 = i → ¬ Lx (heard f e) (E.foldl (hear f i) s).1) ∧
    (E.foldl (hear f i) s = s ∨ ∃ e ∈ E, e.1 = i ∧ E.foldl (hear f i) s = (heard f e, (e.2.1 : Int)))
  | [], s => ⟨Lx.irrefl _, fun _ h => absurd h List.not_mem_nil, .inl rfl⟩
  | e :: E, s => by
    obtain ⟨h1, h2, h3⟩ := hears_spec f i E (hear f i s e)
    rw [List.foldl_cons]
    generalize E.foldl (hear f i) (hear f i s e) = r at h1 h2 h3 ⊢
    have hm : ¬ Lx s.1 (hear f i s e).1 ∧ (e.1 = i → ¬ Lx (heard f e) (hear f i s e).1) := by
      unfold hear
      by_cases hc : e.1 = i ∧ lessI (heard f e) s.1 < 0
      · rw [if_pos hc]
        have := lessI_neg.1 hc.2
        exact ⟨by show ¬ Lx s.1 (heard f e); unfold Lx; omega, fun _ => Lx.irrefl _⟩
      · rw [if_neg hc]
        refine ⟨Lx.irrefl _, fun hi hl => hc ⟨hi, lessI_neg.2 hl⟩⟩
    refine ⟨Lx.trans_not hm.1 h1, fun x hx hxi => ?_, ?_⟩
    · rcases List.mem_cons.1 hx with rfl | hx
      · exact Lx.trans_not (hm.2 hxi) h1
      · exact h2 x hx hxi
    · rcases h3 with h3 | ⟨x, hx, hxi, h3⟩
      · unfold hear at h3
        split at h3
        · next hc => exact .inr ⟨e, List.mem_cons_self .., hc.1, h3⟩
        · exact .inl h3
      · exact .inr ⟨x, List.mem_cons_of_mem _ hx, hxi, h3⟩

/-- The least point within t edges. -/
def rootT (E : List Edge) (n t i : Nat) : Nat := ((List.range n).find? (fun k => decide (bell E t i k < 1000))).getD i
theorem bell_self {n : Nat} {E : List Edge} (hn : Net n E) (t i : Nat) : bell E t i i = 0 := (bell_lst hn t i i).self hn
theorem rootT_spec {n : Nat} {E : List Edge} (hn : Net n E) {t i : Nat} (hi : i < n) : rootT E n t i < n ∧ bell E t i (rootT E n t i) < 1000 ∧ ∀ k, k < n → bell E t i k < 1000 → rootT E n t i ≤ k := by
  unfold rootT
  cases h : (List.range n).find? (fun k => decide (bell E t i k < 1000)) with
  | none =>
    exfalso
    have := List.find?_eq_none.1 h i (List.mem_range.2 hi)
    rw [bell_self hn] at this
    simp at this
  | some k =>
    rw [List.find?_range_eq_some] at h
    obtain ⟨h1, h2, h3⟩ := h
    simp only [Option.getD_some]
    refine ⟨List.mem_range.1 h2, by simpa using h1, fun j hj hb => ?_⟩
    rcases Nat.lt_or_ge j k with hl | hl
    · have := h3 j hl
      simp at this
      omega
    · exact hl
theorem rootT_unique {n : Nat} {E : List Edge} (hn : Net n E) {t i r : Nat} (hi : i < n) (hr : r < n) (h1 : bell E t i r < 1000) (h2 : ∀ k, k < n → bell E t i k < 1000 → r ≤ k) : rootT E n t i = r := by
  obtain ⟨a, b, c⟩ := rootT_spec hn (t := t) hi
  have := c r hr h1
  have := h2 _ a b
  omega
theorem rootT_le {n : Nat} {E : List Edge} (hn : Net n E) {t i : Nat} (hi : i < n) : rootT E n t i ≤ i := (rootT_spec hn hi).2.2 i hi (by rw [bell_self hn]; omega)
/-- What each says behind t rounds. -/
def said (E : List Edge) (n t j : Nat) : Int × Int := ((rootT E n t j : Int), bell E t j (rootT E n t j))
theorem said_zero {n : Nat} {E : List Edge} (hn : Net n E) {i : Nat} (hi : i < n) : said E n 0 i = ((i : Int), 0) := by
  have : rootT E n 0 i = i := rootT_unique hn hi hi (by rw [bell_self hn]; omega) (fun k hk hb => by
    unfold bell base at hb
    split at hb
    · omega
    · omega)
  unfold said
  rw [this, bell_self hn]
theorem bell_edge {n : Nat} {E : List Edge} (hn : Net n E) {t i j k : Nat} {c : Int} (he : (i, j, c) ∈ E) : bell E (t + 1) i k ≤ c + bell E t j k := by
  have := (bstep_spec (fun w => bell E t w k) i E (base i k)).2.1 j c he
  exact this
theorem bell_hop {n : Nat} {E : List Edge} (hn : Net n E) {t i k : Nat} (hik : i ≠ k) (hb : bell E (t + 1) i k < 1000) : ∃ j c, (i, j, c) ∈ E ∧ c + bell E t j k = bell E (t + 1) i k := by
  have h3 := (bstep_spec (fun w => bell E t w k) i E (base i k)).2.2
  rcases h3 with h3 | ⟨w, c, hm, h3⟩
  · exfalso
    have h4 : bell E (t + 1) i k = base i k := h3
    unfold base at h4
    rw [if_neg hik] at h4
    omega
  · exact ⟨w, c, hm, h3.symm⟩
theorem bell_via {n : Nat} {E : List Edge} (hn : Net n E) {t i j k : Nat} {c : Int} (ht : t ≤ 20) (he : (i, j, c) ∈ E) (hb : bell E t j k < 1000) : bell E (t + 1) i k < 1000 := by
  have hd := hn.dom _ _ _ he
  rcases (bell_lst hn t j k).1 with hx | ⟨m, hm, hw⟩
  · omega
  · have h1 := (bell_lst hn (t + 1) i k).2.2 (m + 1) _ (by omega) (Wk.cons he hw)
    have h2 := (Wk.cons he hw).top hn
    omega
/-- One round. -/
theorem round_spec {n : Nat} {E : List Edge} (hn : Net n E) {t i : Nat} (ht : t ≤ 20) (hi : i < n) : ∃ w : Int, ∃ over : Int, E.foldl (hear (said E n t) i) (((i : Int), 0, (i : Int)), -1) = (((rootT E n (t + 1) i : Int), bell E (t + 1) i (rootT E n (t + 1) i), w), over) ∧
    ((rootT E n (t + 1) i = i ∧ over = -1) ∨ (rootT E n (t + 1) i ≠ i ∧ ∃ (j : Nat) (c : Int), over = (j : Int) ∧ (i, j, c) ∈ E ∧ rootT E n t j = rootT E n (t + 1) i ∧ c + bell E t j (rootT E n t j) = bell E (t + 1) i (rootT E n (t + 1) i) ∧
      ∀ (j' : Nat) (c' : Int), (i, j', c') ∈ E → rootT E n t j' = rootT E n (t + 1) i → c' + bell E t j' (rootT E n t j') = bell E (t + 1) i (rootT E n (t + 1) i) → j ≤ j')) := by
  obtain ⟨h1, h2, h3⟩ := hears_spec (said E n t) i E (((i : Int), 0, (i : Int)), -1)
  obtain ⟨r1, r2, r3⟩ := rootT_spec hn (t := t + 1) hi
  have r4 := rootT_le hn (t := t + 1) hi
  obtain ⟨r, hr⟩ : ∃ r, r = rootT E n (t + 1) i := ⟨_, rfl⟩
  rw [← hr] at r1 r2 r3 r4 ⊢
  generalize E.foldl (hear (said E n t) i) (((i : Int), 0, (i : Int)), -1) = s at h1 h2 h3 ⊢
  have hlow : ∀ (j : Nat) (c : Int), (i, j, c) ∈ E → r ≤ rootT E n t j ∧ (rootT E n t j = r → bell E (t + 1) i r ≤ bell E t j (rootT E n t j) + c) := fun j c he => by
    have hd := hn.dom _ _ _ he
    obtain ⟨q1, q2, _⟩ := rootT_spec hn (t := t) hd.2.1
    have hb := bell_edge hn (t := t) (k := rootT E n t j) he
    refine ⟨r3 _ q1 (bell_via hn ht he q2), fun e => ?_⟩
    rw [e] at hb ⊢
    omega
  by_cases hri : r = i
  · rcases h3 with h3 | ⟨⟨x, j, c⟩, he, hx, h3⟩
    · refine ⟨(i : Int), -1, ?_, .inl ⟨hri, rfl⟩⟩
      rw [h3, hri, bell_self hn]
    · exfalso
      simp only at hx
      subst hx
      have hd := hn.dom _ _ _ he
      obtain ⟨l1, l2⟩ := hlow j c he
      have hnn := (bell_lst hn t j (rootT E n t j)).nonneg hn
      rw [h3] at h1
      apply h1
      unfold Lx heard said
      simp only
      omega
  · have hrl : r < i := by omega
    obtain ⟨j0, c0, he0, hb0⟩ := bell_hop hn (t := t) (fun e => hri e.symm) r2
    have hd0 := hn.dom _ _ _ he0
    have hroot0 : rootT E n t j0 = r := rootT_unique hn hd0.2.1 r1 (by omega) (fun k hk hb => r3 k hk (bell_via hn ht he0 hb))
    have hc0 := h2 _ he0 rfl
    unfold heard said at hc0
    simp only [hroot0] at hc0
    rcases h3 with h3 | ⟨⟨x, j, c⟩, he, hx, h3⟩
    · exfalso
      rw [h3] at hc0
      apply hc0
      unfold Lx
      simp only
      omega
    · simp only at hx
      subst hx
      obtain ⟨l1, l2⟩ := hlow j c he
      rw [h3] at hc0 h2
      unfold heard said Lx at hc0
      simp only at hc0
      have e1 : rootT E n t j = r := by omega
      have l3 := l2 e1
      rw [e1] at l3 hc0
      have e2 : bell E t j r + c = bell E (t + 1) x r := by omega
      refine ⟨(j : Int), (j : Int), ?_, .inr ⟨hri, j, c, rfl, he, e1, by rw [e1]; omega, fun j' c' he' e3 e4 => ?_⟩⟩
      · rw [h3]
        unfold heard said
        simp only [e1, e2]
      · have h6 : ¬ Lx ((r : Int), bell E t j' r + c', (j' : Int)) ((r : Int), bell E t j r + c, (j : Int)) := by
          have := h2 _ he' rfl
          unfold heard said at this
          simp only at this
          rw [e1, e3] at this
          exact this
        unfold Lx at h6
        simp only [true_and] at h6
        rw [e3] at e4
        omega

/-- The root, at last. -/
def rootF (n : Nat) (E : List Edge) (i : Nat) : Nat := ((List.range n).find? (fun k => decide (far E i k < 1000))).getD i
theorem bell_far {n : Nat} {E : List Edge} (hn : Net n E) (h8 : n ≤ 8) {t i k : Nat} (ht : n - 1 ≤ t) (hk : k < n) : bell E t i k = far E i k := ((bell_lst hn t i k).dst hn hk ht).unique (far_dst hn h8 hk)
theorem rootF_spec {n : Nat} {E : List Edge} (hn : Net n E) {i : Nat} (hi : i < n) : rootF n E i < n ∧ far E i (rootF n E i) < 1000 ∧ ∀ k, k < n → far E i k < 1000 → rootF n E i ≤ k := rootT_spec hn (t := 8) hi
theorem rootF_le {n : Nat} {E : List Edge} (hn : Net n E) {i : Nat} (hi : i < n) : rootF n E i ≤ i := rootT_le hn (t := 8) hi
theorem rootT_rootF {n : Nat} {E : List Edge} (hn : Net n E) (h8 : n ≤ 8) {t i : Nat} (ht : n - 1 ≤ t) (hi : i < n) : rootT E n t i = rootF n E i := by
  obtain ⟨a, b, c⟩ := rootF_spec hn hi
  exact rootT_unique hn hi a (by rw [bell_far hn h8 ht a]; exact b) (fun k hk hb => c k hk (by rwa [bell_far hn h8 ht hk] at hb))
theorem far_short {n : Nat} {E : List Edge} (hn : Net n E) (h8 : n ≤ 8) {i k : Nat} (hk : k < n) (h : far E i k < 1000) : far E i k ≤ 140 := by
  rcases (bell_lst hn (n - 1) i k).1 with hx | ⟨m, hm, hw⟩
  · rw [bell_far hn h8 (Nat.le_refl _) hk] at hx; omega
  · rw [bell_far hn h8 (Nat.le_refl _) hk] at hw
    have := hw.top hn
    omega
/-- Neighbours have one root. -/
theorem rootF_edge {n : Nat} {E : List Edge} (hn : Net n E) (h8 : n ≤ 8) {i j : Nat} {c : Int} (he : (i, j, c) ∈ E) : rootF n E i = rootF n E j := by
  have hd := hn.dom _ _ _ he
  obtain ⟨a1, a2, a3⟩ := rootF_spec hn hd.1
  obtain ⟨b1, b2, b3⟩ := rootF_spec hn hd.2.1
  have h1 : far E i (rootF n E j) < 1000 := by
    have := far_edge hn h8 (v := rootF n E j) b1 he
    have := far_short hn h8 b1 b2
    omega
  have h2 : far E j (rootF n E i) < 1000 := by
    have := far_edge hn h8 (v := rootF n E i) a1 (hn.sym _ _ _ he)
    have := far_short hn h8 a1 a2
    omega
  have := a3 _ b1 h1
  have := b3 _ a1 h2
  omega
/-- The last round gives the first hop. -/
theorem round_last {n : Nat} {E : List Edge} (hn : Net n E) (h8 : n ≤ 8) (h1 : 1 ≤ n) {i : Nat} (hi : i < n) : ∃ w : Int, E.foldl (hear (said E n (n - 1)) i) (((i : Int), 0, (i : Int)), -1) = (((rootF n E i : Int), far E i (rootF n E i), w), hopOf n E i (rootF n E i)) := by
  obtain ⟨w, over, he, hover⟩ := round_spec hn (t := n - 1) (by omega) hi
  rw [rootT_rootF hn h8 (by omega) hi] at he hover
  obtain ⟨a1, a2, a3⟩ := rootF_spec hn hi
  rw [bell_far hn h8 (by omega) a1] at he hover
  refine ⟨w, ?_⟩
  have hhop : IsHop n E i (rootF n E i) over := by
    rcases hover with ⟨e, h⟩ | ⟨e, j, c, h1', h2, h3, h4, h5⟩
    · exact .inl ⟨.inl e.symm, h⟩
    · have hd := hn.dom _ _ _ h2
      refine .inr ⟨⟨fun x => e x.symm, a2⟩, j, h1', hd.2.1, ⟨c, h2, ?_⟩, fun j' c' he' hc' => h5 j' c' he' ?_ ?_⟩
      · rw [h3, bell_far hn h8 (Nat.le_refl _) a1] at h4; exact h4
      · rw [rootT_rootF hn h8 (Nat.le_refl _) (hn.dom _ _ _ he').2.1, ← rootF_edge hn h8 he']
      · rw [rootT_rootF hn h8 (Nat.le_refl _) (hn.dom _ _ _ he').2.1, ← rootF_edge hn h8 he', bell_far hn h8 (Nat.le_refl _) a1]; exact hc'
  rw [he, hopOf_of hhop]
end Go.Proofs.YtnmddgjgmdegoaaDoor
