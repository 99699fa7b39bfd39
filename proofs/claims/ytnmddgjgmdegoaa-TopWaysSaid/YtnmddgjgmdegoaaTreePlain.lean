/- Plain: the links that the tree goes over, as links; how many they are; the way to the root. -/
import Derived.Test.YtnmddgjgmdegoaaUsedPlain
namespace Go.Proofs.Ytnmddgjgmdegoaa
set_option linter.unusedVariables false

/-- Of the first k links those that are so. -/
def leftT (L : List Lnk) (U : Nat → Bool) : Nat → List Lnk
  | 0 => []
  | k + 1 => if U k = true then leftT L U k ++ [(L[k]?).getD (0, 0, 0)] else leftT L U k
theorem leftT_yes {L : List Lnk} {U : Nat → Bool} {k : Nat} {x : Lnk} (hx : L[k]? = some x) (h : U k = true) : leftT L U (k + 1) = leftT L U k ++ [x] := by
  show (if U k = true then leftT L U k ++ [(L[k]?).getD (0, 0, 0)] else leftT L U k) = _
  rw [if_pos h, hx]; rfl
theorem leftT_no {L : List Lnk} {U : Nat → Bool} {k : Nat} (h : U k = false) : leftT L U (k + 1) = leftT L U k := by
  conv => lhs; unfold leftT
  rw [if_neg (by rw [h]; decide)]
theorem leftT_len {L : List Lnk} {U : Nat → Bool} : ∀ {k : Nat}, (leftT L U k).length = cntD U k
  | 0 => rfl
  | k + 1 => by
    cases h : U k with
    | true =>
      show (if U k = true then leftT L U k ++ [(L[k]?).getD (0, 0, 0)] else leftT L U k).length = cntD U k + if U k = true then 1 else 0
      rw [if_pos h, if_pos h, List.length_append, leftT_len]; rfl
    | false =>
      show _ = cntD U k + if U k = true then 1 else 0
      rw [leftT_no h, if_neg (by rw [h]; decide), leftT_len]; rfl
theorem leftT_mem {L : List Lnk} {U : Nat → Bool} {x : Lnk} : ∀ {k : Nat}, k ≤ L.length → (x ∈ leftT L U k ↔ ∃ j, j < k ∧ U j = true ∧ L[j]? = some x)
  | 0, _ => ⟨fun h => absurd h List.not_mem_nil, fun ⟨j, h, _⟩ => absurd h (Nat.not_lt_zero _)⟩
  | k + 1, hk => by
    have ih := leftT_mem (L := L) (U := U) (x := x) (k := k) (by omega)
    obtain ⟨y, hy⟩ : ∃ y, L[k]? = some y := ⟨_, List.getElem?_eq_getElem (by omega)⟩
    cases h : U k with
    | true =>
      rw [leftT_yes hy h, List.mem_append, ih]
      constructor
      · rintro (⟨j, h1, h2, h3⟩ | h1)
        · exact ⟨j, by omega, h2, h3⟩
        · exact ⟨k, Nat.lt_succ_self _, h, by rw [hy, List.mem_singleton.1 h1]⟩
      · rintro ⟨j, h1, h2, h3⟩
        by_cases e : j = k
        · subst e
          rw [hy] at h3
          exact .inr (List.mem_singleton.2 (Option.some.inj h3).symm)
        · exact .inl ⟨j, by omega, h2, h3⟩
    | false =>
      rw [leftT_no h, ih]
      constructor
      · rintro ⟨j, h1, h2, h3⟩; exact ⟨j, by omega, h2, h3⟩
      · rintro ⟨j, h1, h2, h3⟩
        refine ⟨j, ?_, h2, h3⟩
        by_cases e : j = k
        · subst e; rw [h] at h2; cases h2
        · omega
def leftR (n : Nat) (L : List Lnk) : List Lnk := leftT L (usedR n L) L.length
theorem left_ok {n : Nat} {L : List Lnk} (h : VOk n L) : VOk n (leftR n L) := by
  refine ⟨h.n1, h.n8, ?_, fun x hx => ?_⟩
  · unfold leftR; rw [leftT_len]; have := cntD_le (usedR n L) L.length; have := h.few; omega
  · obtain ⟨j, _, _, hj⟩ := (leftT_mem (Nat.le_refl _)).1 hx
    exact h.each x (List.mem_iff_getElem?.2 ⟨j, hj⟩)
/-- Over the used links it is as far to the root as it was. -/
theorem left_far {n : Nat} {L : List Lnk} (h : VOk n L) {i : Nat} (hi : i < n) : far (edges (leftR n L)) i (rootF n (edges L) i) = far (edges L) i (rootF n (edges L) i) := by
  refine (keep_used h (left_ok h) (fun x hx => ?_) (fun k x hx hu => ?_) hi).2.1
  · obtain ⟨j, _, _, hj⟩ := (leftT_mem (Nat.le_refl _)).1 hx
    exact List.mem_iff_getElem?.2 ⟨j, hj⟩
  · exact (leftT_mem (Nat.le_refl _)).2 ⟨k, (List.getElem?_eq_some_iff.1 hx).1, hu, hx⟩
/-- Over whom one goes: no bridge that is a root; the others to a neighbour with the same root, nearer to it, and each over a link of its own. -/
theorem over_cases {n : Nat} {L : List Lnk} (h : VOk n L) {i : Nat} (hi : i < n) : (rootF n (edges L) i = i ∧ overR n L i = -1) ∨
    (rootF n (edges L) i ≠ i ∧ ∃ j : Nat, overR n L i = (j : Int) ∧ j < n ∧ rootF n (edges L) j = rootF n (edges L) i ∧ far (edges L) j (rootF n (edges L) i) < far (edges L) i (rootF n (edges L) i) ∧
      ∃ (k : Nat) (x : Lnk), bestOf L i (overR n L i) = (k : Int) ∧ k < L.length ∧ L[k]? = some x ∧ Joins i j x) := by
  rcases hop_root h.net h.n8 hi with ⟨h1, h2⟩ | ⟨h1, j, c, h2, h3, h4, h5, h6⟩
  · exact .inl ⟨h1, h2⟩
  · obtain ⟨k, x, b1, b2, b3, _⟩ := bestOf_edge h h4
    have hd := h.net.dom _ _ _ h4
    have e : overR n L i = (j : Int) := h2
    exact .inr ⟨h1, j, e, h3, h6, by omega, k, x, by rw [e]; exact b1, (List.getElem?_eq_some_iff.1 b2).1, b2, b3⟩
theorem over_inj {n : Nat} {L : List Lnk} (h : VOk n L) {i i' : Nat} (hi : i < n) (hi' : i' < n) (ho : ¬ overR n L i < 0) (ho' : ¬ overR n L i' < 0) (he : (bestOf L i (overR n L i)).toNat = (bestOf L i' (overR n L i')).toNat) : i = i' := by
  rcases over_cases h hi with ⟨_, e⟩ | ⟨_, j, e1, e2, e3, e4, k, x, e5, e6, e7, e8⟩
  · omega
  · rcases over_cases h hi' with ⟨_, e⟩ | ⟨_, j', d1, d2, d3, d4, k', x', d5, d6, d7, d8⟩
    · omega
    · rw [e5, d5, Int.toNat_natCast, Int.toNat_natCast] at he
      subst he
      rw [e7] at d7
      obtain rfl := Option.some.inj d7
      unfold Joins at e8 d8
      by_cases e : i = i'
      · exact e
      · exfalso
        have h1 : j = i' := by omega
        have h2 : j' = i := by omega
        subst h1 h2
        rw [e3] at d4
        omega
theorem cntD_ext {d e : Nat → Bool} : ∀ {n : Nat}, (∀ x, x < n → d x = e x) → cntD d n = cntD e n
  | 0, _ => rfl
  | n + 1, h => by unfold cntD; rw [cntD_ext fun x hx => h x (by omega), h n (Nat.lt_succ_self _)]
theorem cntD_none : ∀ n : Nat, cntD (fun _ => false) n = 0
  | 0 => rfl
  | n + 1 => by unfold cntD; rw [cntD_none n]; rfl
theorem cntD_not (d : Nat → Bool) : ∀ n : Nat, cntD d n + cntD (fun i => !d i) n = n
  | 0 => rfl
  | n + 1 => by have := cntD_not d n; unfold cntD; cases d n <;> simp <;> omega
theorem used_count {n : Nat} {L : List Lnk} (h : VOk n L) : ∀ t : Nat, t ≤ n → cntD (usedT L (overR n L) t) L.length = cntD (fun i => !decide (rootF n (edges L) i = i)) t
  | 0, _ => cntD_none _
  | t + 1, ht => by
    have ih := used_count h t (by omega)
    rcases over_cases h (i := t) (by omega) with ⟨e0, e1⟩ | ⟨e0, j, e1, e2, e3, e4, k, x, e5, e6, e7, e8⟩
    · show cntD (if overR n L t < 0 then usedT L (overR n L) t else updf (usedT L (overR n L) t) (bestOf L t (overR n L t)).toNat true) L.length = cntD (fun i => !decide (rootF n (edges L) i = i)) t + _
      rw [if_pos (by omega), ih]
      simp [e0]
    · have hk : usedT L (overR n L) t k = false := by
        cases hu : usedT L (overR n L) t k with
        | false => rfl
        | true =>
          obtain ⟨i, i1, i2, i3⟩ := usedT_iff.1 hu
          have := over_inj h (i := i) (i' := t) (by omega) (by omega) i2 (by omega) (by rw [i3, e5, Int.toNat_natCast])
          omega
      show cntD (if overR n L t < 0 then usedT L (overR n L) t else updf (usedT L (overR n L) t) (bestOf L t (overR n L t)).toNat true) L.length = cntD (fun i => !decide (rootF n (edges L) i = i)) t + _
      rw [if_neg (by omega), e5, Int.toNat_natCast, cntD_mark hk, if_pos e6, ih]
      simp [e0]
def rootB (n : Nat) (L : List Lnk) (i : Nat) : Bool := decide (rootF n (edges L) i = i)
theorem left_many {n : Nat} {L : List Lnk} (h : VOk n L) : (leftR n L).length + cntD (rootB n L) n = n := by
  unfold leftR
  rw [leftT_len]
  have h1 := used_count h n (Nat.le_refl _)
  have h2 := cntD_not (rootB n L) n
  unfold usedR
  rw [h1]
  have : (fun i => !rootB n L i) = (fun i => !decide (rootF n (edges L) i = i)) := rfl
  rw [this] at h2
  omega
/-- One step towards the root. -/
theorem over_rank {n : Nat} {L : List Lnk} (h : VOk n L) {at_ r : Nat} (ha : at_ < n) (hr : rootF n (edges L) at_ = r) (ho : ¬ overR n L at_ < 0) :
    ∃ j : Nat, overR n L at_ = (j : Int) ∧ j < n ∧ rootF n (edges L) j = r ∧ rankF n (edges L) r j < rankF n (edges L) r at_ := by
  rcases over_cases h ha with ⟨_, e⟩ | ⟨_, j, e1, e2, e3, e4, _⟩
  · omega
  · rw [hr] at e3 e4
    exact ⟨j, e1, e2, e3, rankF_less e2 e4⟩
theorem over_end {n : Nat} {L : List Lnk} (h : VOk n L) {at_ r : Nat} (ha : at_ < n) (hr : rootF n (edges L) at_ = r) (ho : overR n L at_ < 0) : at_ = r := by
  rcases over_cases h ha with ⟨e, _⟩ | ⟨_, j, e1, _⟩
  · omega
  · omega
end Go.Proofs.Ytnmddgjgmdegoaa
