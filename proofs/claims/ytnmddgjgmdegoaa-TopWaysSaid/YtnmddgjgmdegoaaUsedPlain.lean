/- Plain: which links the tree goes over: of each hop the cheapest link between, the first of these. -/
import Derived.Test.YtnmddgjgmdegoaaStpMore
namespace Go.Proofs.Ytnmddgjgmdegoaa
set_option linter.unusedVariables false

def Joins (a b : Int) (x : Lnk) : Prop := (x.1 = a ∧ x.2.1 = b) ∨ (x.1 = b ∧ x.2.1 = a)
instance (a b : Int) (x : Lnk) : Decidable (Joins a b x) := by unfold Joins; infer_instance
def costAt (L : List Lnk) (k : Int) : Int := ((L[k.toNat]?).getD (0, 0, 0)).2.2
theorem costAt_nat {L : List Lnk} {k : Nat} {x : Lnk} (h : L[k]? = some x) : costAt L (k : Int) = x.2.2 := by unfold costAt; rw [Int.toNat_natCast, h]; rfl
def takesIt (L : List Lnk) (a b best : Int) (x : Lnk) : Prop := Joins a b x ∧ (best < 0 ∨ x.2.2 < costAt L best)
instance (L : List Lnk) (a b best : Int) (x : Lnk) : Decidable (takesIt L a b best x) := by unfold takesIt; infer_instance
/-- The first of the cheapest links between two points, among the first q. -/
def bIdx (L : List Lnk) (a b : Int) : Nat → Int
  | 0 => -1
  | q + 1 => if takesIt L a b (bIdx L a b q) ((L[q]?).getD (0, 0, 0)) then (q : Int) else bIdx L a b q
theorem bIdx_yes {L : List Lnk} {a b : Int} {q : Nat} {x : Lnk} (h : L[q]? = some x) (hc : takesIt L a b (bIdx L a b q) x) : bIdx L a b (q + 1) = (q : Int) := by
  unfold bIdx; rw [h]; exact if_pos hc
theorem bIdx_no {L : List Lnk} {a b : Int} {q : Nat} {x : Lnk} (h : L[q]? = some x) (hc : ¬ takesIt L a b (bIdx L a b q) x) : bIdx L a b (q + 1) = bIdx L a b q := by
  conv => lhs; unfold bIdx
  rw [h]; exact if_neg hc
theorem bIdx_spec (L : List Lnk) (a b : Int) : ∀ q : Nat, q ≤ L.length → (bIdx L a b q = -1 ∧ ∀ k x, k < q → L[k]? = some x → ¬ Joins a b x) ∨
    ∃ (k : Nat) (x : Lnk), bIdx L a b q = (k : Int) ∧ k < q ∧ L[k]? = some x ∧ Joins a b x ∧ ∀ k' x', k' < q → L[k']? = some x' → Joins a b x' → x.2.2 ≤ x'.2.2 ∧ (k' < k → x.2.2 < x'.2.2)
  | 0, _ => .inl ⟨rfl, fun k x hk => absurd hk (Nat.not_lt_zero _)⟩
  | q + 1, hq => by
    obtain ⟨y, hy⟩ : ∃ y, L[q]? = some y := ⟨_, List.getElem?_eq_getElem (by omega)⟩
    rcases bIdx_spec L a b q (by omega) with ⟨h1, h2⟩ | ⟨k, x, h1, h2, h3, h4, h5⟩
    · by_cases hj : Joins a b y
      · right
        refine ⟨q, y, bIdx_yes hy ⟨hj, .inl (by rw [h1]; decide)⟩, Nat.lt_succ_self _, hy, hj, fun k' x' hk' hx' hj' => ?_⟩
        by_cases e : k' = q
        · subst e
          rw [hy] at hx'
          obtain rfl := Option.some.inj hx'
          exact ⟨Int.le_refl _, fun h => absurd h (Nat.lt_irrefl _)⟩
        · exact absurd hj' (h2 k' x' (by omega) hx')
      · left
        refine ⟨by rw [bIdx_no hy (fun h => hj h.1), h1], fun k' x' hk' hx' => ?_⟩
        by_cases e : k' = q
        · subst e
          rw [hy] at hx'
          obtain rfl := Option.some.inj hx'
          exact hj
        · exact h2 k' x' (by omega) hx'
    · right
      have hc := costAt_nat h3
      by_cases ht : takesIt L a b (bIdx L a b q) y
      · have ht' := ht
        unfold takesIt at ht'
        rw [h1, hc] at ht'
        refine ⟨q, y, bIdx_yes hy ht, Nat.lt_succ_self _, hy, ht.1, fun k' x' hk' hx' hj' => ?_⟩
        by_cases e : k' = q
        · subst e
          rw [hy] at hx'
          obtain rfl := Option.some.inj hx'
          exact ⟨Int.le_refl _, fun h => absurd h (Nat.lt_irrefl _)⟩
        · have := (h5 k' x' (by omega) hx' hj').1
          omega
      · refine ⟨k, x, by rw [bIdx_no hy ht, h1], by omega, h3, h4, fun k' x' hk' hx' hj' => ?_⟩
        by_cases e : k' = q
        · subst e
          rw [hy] at hx'
          obtain rfl := Option.some.inj hx'
          unfold takesIt at ht
          rw [h1, hc] at ht
          have : ¬ y.2.2 < x.2.2 := fun h => ht ⟨hj', .inr h⟩
          exact ⟨by omega, fun h => by omega⟩
        · exact h5 k' x' (by omega) hx' hj'
def bestOf (L : List Lnk) (a b : Int) : Int := bIdx L a b L.length
/-- Between neighbours there is one; it costs what it costs between them. -/
theorem bestOf_edge {n : Nat} {L : List Lnk} (h : VOk n L) {i j : Nat} {c : Int} (he : (i, j, c) ∈ edges L) :
    ∃ (k : Nat) (x : Lnk), bestOf L i j = (k : Int) ∧ L[k]? = some x ∧ Joins i j x ∧ x.2.2 ≤ c ∧ x.2.2 = cst L i j ∧ (i, j, x.2.2) ∈ edgesOf x ∧ ∀ k' x', L[k']? = some x' → Joins i j x' → x.2.2 ≤ x'.2.2 ∧ (k' < k → x.2.2 < x'.2.2) := by
  obtain ⟨y, hy, he'⟩ := mem_edges.1 he
  have hoy := h.each y hy
  unfold LOk at hoy
  obtain ⟨p, hp⟩ := List.mem_iff_getElem?.1 hy
  have hjy : Joins i j y := by
    unfold Joins
    simp only [Prod.mk.injEq] at he'
    omega
  have hcy : y.2.2 = c := by
    simp only [Prod.mk.injEq] at he'
    omega
  have hpl := (List.getElem?_eq_some_iff.1 hp).1
  rcases bIdx_spec L i j L.length (Nat.le_refl _) with ⟨h1, h2⟩ | ⟨k, x, h1, h2, h3, h4, h5⟩
  · exact absurd hjy (h2 p y hpl hp)
  · have hox := h.each x (List.mem_iff_getElem?.2 ⟨k, h3⟩)
    unfold LOk at hox
    have hmem : (i, j, x.2.2) ∈ edgesOf x := by
      unfold edgesOf Joins at *
      rcases h4 with h4 | h4
      · rw [show x.1.toNat = i by omega, show x.2.1.toNat = j by omega]; simp
      · rw [show x.1.toNat = j by omega, show x.2.1.toNat = i by omega]; simp
    have hmem2 : (i, j, x.2.2) ∈ edges L := by
      unfold edges
      exact List.mem_flatMap.2 ⟨x, List.mem_iff_getElem?.2 ⟨k, h3⟩, hmem⟩
    have hle := (h5 p y hpl hp hjy).1
    obtain ⟨c1, c2, c3⟩ := cst_spec h (u := i) (v := j)
    have c4 := c2 _ hmem2
    refine ⟨k, x, h1, h3, h4, by omega, ?_, hmem, fun k' x' hx' hj' => h5 k' x' (List.getElem?_eq_some_iff.1 hx').1 hx' hj'⟩
    rcases c3 with c3 | c3
    · omega
    · obtain ⟨z, hz, hze⟩ := mem_edges.1 c3
      obtain ⟨r, hr⟩ := List.mem_iff_getElem?.1 hz
      have hoz := h.each z hz
      unfold LOk at hoz
      have := (h5 r z (List.getElem?_eq_some_iff.1 hr).1 hr (by unfold Joins; simp only [Prod.mk.injEq] at hze; omega)).1
      simp only [Prod.mk.injEq] at hze
      omega
/-- What is used, behind the first t points. -/
def usedT (L : List Lnk) (O : Nat → Int) : Nat → Nat → Bool
  | 0 => fun _ => false
  | t + 1 => if O t < 0 then usedT L O t else updf (usedT L O t) (bestOf L t (O t)).toNat true
theorem usedT_iff {L : List Lnk} {O : Nat → Int} {k : Nat} : ∀ {t : Nat}, usedT L O t k = true ↔ ∃ i, i < t ∧ ¬ O i < 0 ∧ (bestOf L i (O i)).toNat = k
  | 0 => ⟨fun h => by simp [usedT] at h, fun ⟨i, hi, _⟩ => absurd hi (Nat.not_lt_zero _)⟩
  | t + 1 => by
    have ih := usedT_iff (L := L) (O := O) (k := k) (t := t)
    unfold usedT
    by_cases h : O t < 0
    · rw [if_pos h, ih]
      constructor
      · rintro ⟨i, hi, h1, h2⟩; exact ⟨i, by omega, h1, h2⟩
      · rintro ⟨i, hi, h1, h2⟩
        refine ⟨i, ?_, h1, h2⟩
        by_cases e : i = t
        · subst e; exact absurd h h1
        · omega
    · rw [if_neg h]
      by_cases e : k = (bestOf L t (O t)).toNat
      · rw [e, updf_same]
        exact ⟨fun _ => ⟨t, Nat.lt_succ_self _, h, rfl⟩, fun _ => rfl⟩
      · rw [updf_other e, ih]
        constructor
        · rintro ⟨i, hi, h1, h2⟩; exact ⟨i, by omega, h1, h2⟩
        · rintro ⟨i, hi, h1, h2⟩
          refine ⟨i, ?_, h1, h2⟩
          by_cases e' : i = t
          · subst e'; exact absurd h2.symm e
          · omega
/-- Over whom each goes to its root. -/
def overR (n : Nat) (L : List Lnk) (i : Nat) : Int := hopOf n (edges L) i (rootF n (edges L) i)
def usedR (n : Nat) (L : List Lnk) : Nat → Bool := usedT L (overR n L) n
/-- Links that hold all that the tree goes over give the same tree. -/
theorem keep_used {n : Nat} {L L' : List Lnk} (h : VOk n L) (h' : VOk n L') (hs : ∀ x ∈ L', x ∈ L) (hk : ∀ k x, L[k]? = some x → usedR n L k = true → x ∈ L') {i : Nat} (hi : i < n) :
    rootF n (edges L') i = rootF n (edges L) i ∧ far (edges L') i (rootF n (edges L) i) = far (edges L) i (rootF n (edges L) i) ∧ hopOf n (edges L') i (rootF n (edges L) i) = hopOf n (edges L) i (rootF n (edges L) i) := by
  refine keep_all h.net h'.net h.n8 (fun e he => ?_) (fun i j hi hj => ?_) hi
  · obtain ⟨x, hx, he⟩ := mem_edges.1 he
    exact mem_edges.2 ⟨x, hs x hx, he⟩
  · rcases hop_root h.net h.n8 hi with ⟨h1, h2⟩ | ⟨h1, j', c, h2, h3, h4, h5, h6⟩
    · rw [h2] at hj; omega
    · obtain rfl : j' = j := by omega
      obtain ⟨k, x, b1, b2, b3, b4, b5, b6, b7⟩ := bestOf_edge h h4
      refine ⟨cst (L) i j', ?_, hop_cst h (rootF_spec h.net hi).1 h4 h5⟩
      have hu : usedR n L k = true := usedT_iff.2 ⟨i, hi, by unfold overR; rw [h2]; omega, by unfold overR; rw [h2, b1, Int.toNat_natCast]⟩
      unfold edges
      rw [← b5]
      exact List.mem_flatMap.2 ⟨x, hk k x b2 hu, b6⟩
end Go.Proofs.Ytnmddgjgmdegoaa
