/- Plain: what one queue has more makes nothing of another one end later by more, bit by bit, and nothing earlier. -/
import Derived.Test.YtpfpaheafpibiaaRndRun
namespace Go.Proofs.Ytpfpaheafpibiaa
set_option linter.unusedVariables false

theorem count_ord (S : List Itm) (c : Nat) : (ordOf S).count (c : Int) = S.countP fun y => y.1 == c := by
  unfold ordOf
  induction S with
  | nil => rfl
  | cons x S ih =>
    rw [List.map_cons, List.count_cons, List.countP_cons, ih]
    congr 1
    by_cases h : x.1 = c
    · simp [h]
    · have : ¬ (x.1 : Int) = (c : Int) := by omega
      simp [h, this]
theorem ord_take (S : List Itm) (k : Nat) : (ordOf S).take k = ordOf (S.take k) := by unfold ordOf; rw [List.map_take]
theorem ord_get {S : List Itm} {k : Nat} {x : Itm} (h : S[k]? = some x) : (ordOf S)[k]? = some (x.1 : Int) := by unfold ordOf; rw [List.getElem?_map, h]; rfl
/-- The queue a has one thing more. -/
def more (ns : List (List Nat)) (a m : Nat) : List (List Nat) := ns.set a (ns.getD a [] ++ [m])
theorem more_len (ns : List (List Nat)) (a m : Nat) : (more ns a m).length = ns.length := by simp [more]
theorem more_getD {ns : List (List Nat)} {a m c : Nat} (hc : ¬ c = a) : (more ns a m).getD c [] = ns.getD c [] := by
  unfold more; rw [List.getD_eq_getElem?_getD, List.getElem?_set_ne (by omega), ← List.getD_eq_getElem?_getD]
theorem more_pos {ns : List (List Nat)} {a m : Nat} (h : Pos ns) (hm : 1 ≤ m) : Pos (more ns a m) := by
  intro l hl x hx
  rcases List.mem_or_eq_of_mem_set hl with hl | hl
  · exact h l hl x hx
  · rw [hl] at hx
    rcases List.mem_append.1 hx with hx | hx
    · exact getD_pos h a x hx
    · rw [List.mem_singleton.1 hx]; exact hm
theorem set_sum : ∀ (l : List Nat) (a : Nat) (y : Nat), a < l.length → (l.set a y).sum + l.getD a 0 = l.sum + y
  | [], a, y, h => by simp at h
  | x :: l, 0, y, _ => by simp; omega
  | x :: l, a + 1, y, h => by
    have := set_sum l a y (by simpa using h)
    rw [List.set_cons_succ, List.sum_cons, List.sum_cons, List.getD_cons_succ]; omega
theorem more_bit {ns : List (List Nat)} {a m : Nat} (ha : a < ns.length) (r : Nat) : bitOf ns r ≤ bitOf (more ns a m) r ∧ bitOf (more ns a m) r ≤ bitOf ns r + m := by
  unfold bitOf more
  rw [List.map_set]
  have h := set_sum (ns.map fun l => min l.sum r) a (min (ns.getD a [] ++ [m]).sum r) (by simpa using ha)
  have h2 : (ns.map fun l => min l.sum r).getD a 0 = min (ns.getD a []).sum r := by
    rw [List.getD_eq_getElem?_getD, List.getD_eq_getElem?_getD, List.getElem?_map, List.getElem?_eq_getElem ha]; rfl
  have h3 : (ns.getD a [] ++ [m]).sum = (ns.getD a []).sum + m := by rw [List.sum_append]; simp
  rw [h2, h3] at h
  rw [h3]
  omega
theorem lens_more {ns : List (List Nat)} {a m : Nat} (ha : a < ns.length) : lens (more ns a m) = lens ns + 1 := by
  unfold lens more
  rw [List.map_set]
  have h := set_sum (ns.map List.length) a (ns.getD a [] ++ [m]).length (by simpa using ha)
  have h2 : (ns.map List.length).getD a 0 = (ns.getD a []).length := by
    rw [List.getD_eq_getElem?_getD, List.getD_eq_getElem?_getD, List.getElem?_map, List.getElem?_eq_getElem ha]; rfl
  have h3 : (ns.getD a [] ++ [m]).length = (ns.getD a []).length + 1 := by simp
  rw [h2, h3] at h
  rw [h3]
  omega
/-- What RoundsApart asks of a thing of another queue. -/
structure ApartOk (O O2 D D2 : List Int) (a : Int) (m : Int) : Prop where
  find : ∀ (i : Nat) (c : Int), O[i]? = some c → ¬ c = a → ∃ k, k < O2.length ∧ O2[k]? = some c ∧ (O2.take k).count c = (O.take i).count c
  bits : ∀ (i k : Nat) (c : Int), O[i]? = some c → ¬ c = a → O2[k]? = some c → (O2.take k).count c = (O.take i).count c → ∃ x y, D[i]? = some x ∧ D2[k]? = some y ∧ x ≤ y ∧ y ≤ x + m ∧ 0 ≤ x
theorem apart_ok {ns : List (List Nat)} {a m : Nat} (h : Pos ns) (ha : a < ns.length) (hm : 1 ≤ m) : ApartOk (ordOf (rnd ns)) (ordOf (rnd (more ns a m))) (bitsOf ns (rnd ns)) (bitsOf (more ns a m) (rnd (more ns a m))) a m := by
  have h2 := more_pos (a := a) h hm
  have back : ∀ {S : List Itm} {i : Nat} {c : Int}, (ordOf S)[i]? = some c → ∃ x, S[i]? = some x ∧ c = (x.1 : Int) := fun {S i c} hc => by
    unfold ordOf at hc; rw [List.getElem?_map] at hc
    obtain ⟨x, hx, e⟩ := Option.map_eq_some_iff.1 hc
    exact ⟨x, hx, e.symm⟩
  refine ⟨fun i c hc hca => ?_, fun i k c hc hca hk hn => ?_⟩
  · obtain ⟨x, hx, rfl⟩ := back hc
    obtain ⟨g1, g2, g3, g4⟩ := rnd_place h hx
    have hne : ¬ x.1 = a := by omega
    have hmem : x ∈ rnd (more ns a m) := mem_rnd.2 ⟨x.1, x.2.1, by rw [more_len]; exact g3, by rw [more_getD hne]; exact g4, by rw [more_getD hne]; exact g2⟩
    obtain ⟨k, hk⟩ := List.mem_iff_getElem?.1 hmem
    refine ⟨k, by rw [show (ordOf (rnd (more ns a m))).length = (rnd (more ns a m)).length by simp [ordOf]]; exact (List.getElem?_eq_some_iff.1 hk).1, ord_get hk, ?_⟩
    rw [ord_take, ord_take, count_ord, count_ord, g1, (rnd_place h2 hk).1]
  · obtain ⟨x, hx, rfl⟩ := back hc
    obtain ⟨y, hy, e⟩ := back hk
    have hxy : y.1 = x.1 := by omega
    obtain ⟨g1, g2, g3, g4⟩ := rnd_place h hx
    obtain ⟨f1, f2, f3, f4⟩ := rnd_place h2 hy
    have hne : ¬ x.1 = a := by omega
    rw [ord_take, ord_take, count_ord, count_ord, g1, ← hxy, f1] at hn
    have hyx : y = x := by rw [f2, g2, hn, hxy, more_getD hne]
    subst hyx
    have hb := more_bit (m := m) ha y.2.2.1
    refine ⟨((bitOf ns y.2.2.1 : Nat) : Int), ((bitOf (more ns a m) y.2.2.1 : Nat) : Int), by unfold bitsOf; rw [List.getElem?_map, hx]; rfl, by unfold bitsOf; rw [List.getElem?_map, hy]; rfl, by omega, by omega, by omega⟩
theorem more_nsOf {qs : List (List Int)} {a : Nat} {q : List Int} {y : Int} (hq : qs[a]? = some q) : nsOf (qs.set a (q ++ [y])) = more (nsOf qs) a y.toNat := by
  unfold more
  rw [nsOf_get hq]
  unfold nsOf
  rw [List.map_set, List.map_append]; rfl
end Go.Proofs.Ytpfpaheafpibiaa
