/- Plain: the reference's table of routes (a place in a rising list) is the law's. -/
import Derived.Test.YtbcfcjecobihnaaDoorLpmFind
namespace Go.Proofs.YtbcfcjecobihnaaDoor
set_option linter.unusedVariables false

/-- How many stand before. -/
def atK (L : List Rte) (a n : Nat) : Nat := (L.takeWhile fun x => ltK x a n).length
def isK (L : List Rte) (a n : Nat) : Bool := match L[atK L a n]? with | some x => keyIs x a n | none => false
theorem atK_le (L : List Rte) (a n : Nat) : atK L a n ≤ L.length := by
  unfold atK; exact (List.takeWhile_sublist _).length_le
theorem atK_nil (a n : Nat) : atK [] a n = 0 := rfl
theorem atK_lt {x : Rte} {L : List Rte} {a n : Nat} (h : ltK x a n = true) : atK (x :: L) a n = atK L a n + 1 := by
  unfold atK; rw [List.takeWhile_cons, if_pos h]; rfl
theorem atK_ge {x : Rte} {L : List Rte} {a n : Nat} (h : ltK x a n = false) : atK (x :: L) a n = 0 := by
  unfold atK; rw [List.takeWhile_cons, if_neg (by rw [h]; decide)]; rfl
/-- Found: none before is so, and the one here is not. -/
theorem atK_is : ∀ {L : List Rte} {a n k : Nat}, k ≤ L.length → (∀ j x, j < k → L[j]? = some x → ltK x a n = true) → (∀ x, L[k]? = some x → ltK x a n = false) → atK L a n = k
  | [], a, n, k, hk, _, _ => by simp at hk; rw [hk]; rfl
  | y :: L, a, n, 0, _, _, h => atK_ge (h y rfl)
  | y :: L, a, n, k + 1, hk, h1, h2 => by
    rw [atK_lt (h1 0 y (by omega) rfl), atK_is (by simpa using hk) (fun j x hj hx => h1 (j + 1) x (by omega) (by simpa using hx)) (fun x hx => h2 x (by simpa using hx))]
theorem setL_at : ∀ {L : List Rte} {a n h : Nat}, setL L a n h = L.take (atK L a n) ++ (a, n, h) :: L.drop (if isK L a n then atK L a n + 1 else atK L a n)
  | [], a, n, h => rfl
  | x :: L, a, n, h => by
    unfold setL
    cases h1 : ltK x a n with
    | true =>
      have ih := setL_at (L := L) (a := a) (n := n) (h := h)
      have hi : isK (x :: L) a n = isK L a n := by unfold isK; rw [atK_lt h1, List.getElem?_cons_succ]
      rw [if_pos rfl, hi, atK_lt h1, ih]
      split <;> simp
    | false =>
      rw [if_neg (by decide)]
      have hi : isK (x :: L) a n = keyIs x a n := by unfold isK; rw [atK_ge h1]; rfl
      rw [hi, atK_ge h1]
      cases keyIs x a n <;> simp
theorem hasL_is : ∀ {L : List Rte} {a n : Nat}, SrtR L → hasL L a n = isK L a n
  | [], a, n, _ => rfl
  | x :: L, a, n, hs => by
    have hs' := List.pairwise_cons.1 hs
    cases h1 : ltK x a n with
    | true =>
      have hi : isK (x :: L) a n = isK L a n := by unfold isK; rw [atK_lt h1, List.getElem?_cons_succ]
      have hk : keyIs x a n = false := by
        have := of_decide_eq_true h1
        simp [keyIs]; omega
      rw [hi, ← hasL_is hs'.2]
      unfold hasL; rw [List.any_cons, hk, Bool.false_or]
    | false =>
      have hi : isK (x :: L) a n = keyIs x a n := by unfold isK; rw [atK_ge h1]; rfl
      have h1' : ¬ (x.1 < a ∨ (x.1 = a ∧ x.2.1 < n)) := of_decide_eq_false h1
      rw [hi]
      unfold hasL; rw [List.any_cons]
      have : (L.any fun x => keyIs x a n) = false := by
        rw [List.any_eq_false]
        intro y hy
        have := hs'.1 y hy
        unfold ltR at this
        simp [keyIs]; omega
      rw [this, Bool.or_false]
theorem dropL_at : ∀ {L : List Rte} {a n : Nat}, SrtR L → isK L a n = true → dropL L a n = L.take (atK L a n) ++ L.drop (atK L a n + 1)
  | [], a, n, _, h => by simp [isK] at h
  | x :: L, a, n, hs, h => by
    have hs' := List.pairwise_cons.1 hs
    cases h1 : ltK x a n with
    | true =>
      have hi : isK (x :: L) a n = isK L a n := by unfold isK; rw [atK_lt h1, List.getElem?_cons_succ]
      have hk : keyIs x a n = false := by
        have := of_decide_eq_true h1
        simp [keyIs]; omega
      rw [hi] at h
      rw [atK_lt h1, List.take_succ_cons, List.drop_succ_cons, List.cons_append, ← dropL_at hs'.2 h]
      unfold dropL; rw [List.filter_cons, if_pos (by rw [hk]; rfl)]
    | false =>
      have hi : isK (x :: L) a n = keyIs x a n := by unfold isK; rw [atK_ge h1]; rfl
      have h1' : ¬ (x.1 < a ∨ (x.1 = a ∧ x.2.1 < n)) := of_decide_eq_false h1
      rw [hi] at h
      rw [atK_ge h1]
      unfold dropL
      rw [List.filter_cons, if_neg (by rw [h]; decide)]
      simp only [List.take_zero, List.nil_append, Nat.zero_add, List.drop_succ_cons, List.drop_zero]
      refine List.filter_eq_self.2 fun y hy => ?_
      have := hs'.1 y hy
      unfold ltR at this
      have h2 := keyIs_iff.1 h
      simp [keyIs]; omega

/-- An address lies in a prefix. -/
def inR (x : Rte) (a : Nat) : Prop := x.1 ≤ a ∧ a < x.1 + 2 ^ (16 - x.2.1)
instance (x : Rte) (a : Nat) : Decidable (inR x a) := by unfold inR; infer_instance
theorem inR_key {x : Rte} {a : Nat} (hk : lpOk x.1 x.2.1) : inR x a ↔ x.1 = a - a % 2 ^ (16 - x.2.1) := by
  obtain ⟨h1, h2, h3⟩ := hk
  unfold inR
  have hp : 0 < 2 ^ (16 - x.2.1) := Nat.pow_pos (by decide)
  generalize 2 ^ (16 - x.2.1) = p at *
  have e1 := Nat.div_add_mod x.1 p
  have e2 := Nat.div_add_mod a p
  have e3 := Nat.mod_lt a hp
  rw [h3] at e1
  constructor
  · rintro ⟨g1, g2⟩
    have : a / p = x.1 / p := by
      have k1 : x.1 / p ≤ a / p := Nat.div_le_div_right g1
      have k2 : a / p < x.1 / p + 1 := by
        rw [Nat.div_lt_iff_lt_mul hp, Nat.add_mul, Nat.one_mul, Nat.mul_comm]; omega
      omega
    rw [this] at e2; omega
  · intro e
    have k1 := Nat.mod_le a p
    omega
/-- The longest of the first ones in which an address lies. -/
def BestR (L : List Rte) (a k : Nat) : Option Nat → Prop
  | none => ∀ x ∈ L.take k, ¬ inR x a
  | some j => j < k ∧ ∃ x, L[j]? = some x ∧ inR x a ∧ ∀ y ∈ L.take k, inR y a → y.2.1 ≤ x.2.1
theorem findL_no {L : List Rte} {a : Nat} (hok : ∀ x ∈ L, lpOk x.1 x.2.1) (h : ∀ x ∈ L, ¬ inR x a) : ∀ i, findL L a i = none
  | 0 => rfl
  | i + 1 => by
    have : lookL L (a - a % 2 ^ (16 - i)) i = -1 := lookL_not fun x hx => by
      cases hk : keyIs x (a - a % 2 ^ (16 - i)) i with
      | false => rfl
      | true =>
        obtain ⟨e1, e2⟩ := keyIs_iff.1 hk
        exact absurd ((inR_key (hok x hx)).2 (by rw [e2]; exact e1)) (h x hx)
    rw [findL, this, if_neg (by decide), findL_no hok h i]
theorem findL_best {L : List Rte} {a : Nat} (hs : SrtR L) (hok : ∀ x ∈ L, lpOk x.1 x.2.1) {x : Rte} (hx : x ∈ L) (hi : inR x a) (hb : ∀ y ∈ L, inR y a → y.2.1 ≤ x.2.1) : ∀ m, findL L a (x.2.1 + 1 + m) = some (x.2.2, x.2.1)
  | 0 => by
    have e := (inR_key (hok x hx)).1 hi
    have h1 := lookL_of hs (a := x.1) (n := x.2.1) (h := x.2.2) hx
    rw [Nat.add_zero, findL, ← e, h1, if_pos (by omega)]; rfl
  | m + 1 => by
    have : lookL L (a - a % 2 ^ (16 - (x.2.1 + 1 + m))) (x.2.1 + 1 + m) = -1 := lookL_not fun y hy => by
      cases hk : keyIs y (a - a % 2 ^ (16 - (x.2.1 + 1 + m))) (x.2.1 + 1 + m) with
      | false => rfl
      | true =>
        obtain ⟨e1, e2⟩ := keyIs_iff.1 hk
        have := hb y hy ((inR_key (hok y hy)).2 (by rw [e2]; exact e1))
        omega
    rw [← Nat.add_assoc, findL, this, if_neg (by decide), findL_best hs hok hx hi hb m]
theorem findL_of {L : List Rte} {a : Nat} (hs : SrtR L) (hok : ∀ x ∈ L, lpOk x.1 x.2.1) {o : Option Nat} (h : BestR L a L.length o) : findL L a 17 = (o.bind fun j => L[j]?).map fun x => (x.2.2, x.2.1) := by
  cases o with
  | none =>
    unfold BestR at h
    rw [List.take_length] at h
    rw [findL_no hok h]; rfl
  | some j =>
    obtain ⟨-, x, hx, hi, hb⟩ := h
    rw [List.take_length] at hb
    have hm : x ∈ L := List.mem_iff_getElem?.2 ⟨j, hx⟩
    have h2 := (hok x hm).2.1
    have := findL_best hs hok hm hi hb (16 - x.2.1)
    rw [show x.2.1 + 1 + (16 - x.2.1) = 17 by omega] at this
    rw [this]; simp [hx]
theorem bestR_no {L : List Rte} {a k : Nat} {o : Option Nat} {x : Rte} (h : BestR L a k o) (hx : L[k]? = some x) (hi : ¬ inR x a) : BestR L a (k + 1) o := by
  have ht : ∀ y, y ∈ L.take (k + 1) → y ∈ L.take k ∨ y = x := fun y hy => by
    rw [List.take_add_one, hx] at hy
    simpa using hy
  cases o with
  | none => exact fun y hy => (ht y hy).elim (h y) fun e => by rw [e]; exact hi
  | some j =>
    obtain ⟨hj, z, hz, h1, h2⟩ := h
    exact ⟨by omega, z, hz, h1, fun y hy hy' => (ht y hy).elim (fun hm => h2 y hm hy') fun e => absurd (by rw [← e]; exact hy') hi⟩
theorem bestR_keep {L : List Rte} {a k j : Nat} {x z : Rte} (h : BestR L a k (some j)) (hz : L[j]? = some z) (hx : L[k]? = some x) (hl : x.2.1 ≤ z.2.1) : BestR L a (k + 1) (some j) := by
  obtain ⟨hj, z', hz', h1, h2⟩ := h
  rw [hz] at hz'; cases hz'
  refine ⟨by omega, z, hz, h1, fun y hy hy' => ?_⟩
  rw [List.take_add_one, hx] at hy
  rcases (by simpa using hy : y ∈ L.take k ∨ y = x) with h | rfl
  · exact h2 y h hy'
  · exact hl
theorem bestR_new {L : List Rte} {a k : Nat} {o : Option Nat} {x : Rte} (h : BestR L a k o) (hx : L[k]? = some x) (hi : inR x a) (hl : ∀ j z, o = some j → L[j]? = some z → z.2.1 ≤ x.2.1) : BestR L a (k + 1) (some k) := by
  refine ⟨by omega, x, hx, hi, fun y hy hy' => ?_⟩
  rw [List.take_add_one, hx] at hy
  rcases (by simpa using hy : y ∈ L.take k ∨ y = x) with hm | rfl
  · cases o with
    | none => exact absurd hy' (h y hm)
    | some j =>
      obtain ⟨-, z, hz, -, h2⟩ := h
      exact Nat.le_trans (h2 y hm hy') (hl j z rfl hz)
  · exact Nat.le_refl _
theorem bestR_zero (L : List Rte) (a : Nat) : BestR L a 0 none := fun x hx => by simp at hx
/-- What is wrong when a place is looked for. -/
theorem findR_of {L : List Rte} {a : Nat} (hs : SrtR L) (hok : ∀ x ∈ L, lpOk x.1 x.2.1) (ha : a ≤ 65535) {o : Option Nat} (h : BestR L a L.length o) : findR L a = match o.bind fun j => L[j]? with | some x => ((x.2.2 : Int), (x.2.1 : Int), 0) | none => (0, 0, 5) := by
  unfold findR
  rw [if_neg (by omega), Int.toNat_natCast, findL_of hs hok h]
  cases o.bind fun j => L[j]? <;> rfl
end Go.Proofs.YtbcfcjecobihnaaDoor
