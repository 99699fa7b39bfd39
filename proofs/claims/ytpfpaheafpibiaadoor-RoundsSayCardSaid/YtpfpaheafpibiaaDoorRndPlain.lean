/- Plain: the things of queues in the order of their rounds; when each ends, and when it would bit by bit. -/
import Derived.Test.YtpfpaheafpibiaaDoorItemsPlain
namespace Go.Proofs.YtpfpaheafpibiaaDoor
set_option linter.unusedVariables false

/-- The i-th thing of queue q. -/
def itAt (q : Nat) (l : List Nat) (i : Nat) : Itm := (q, i, (l.take (i + 1)).sum, l.getD i 0)
def rawQ (q : Nat) (l : List Nat) : List Itm := (List.range l.length).map (itAt q l)
def rawTo (ns : List (List Nat)) (k : Nat) : List Itm := (List.range k).flatMap fun q => rawQ q (ns.getD q [])
def raw (ns : List (List Nat)) : List Itm := rawTo ns ns.length
def rnd (ns : List (List Nat)) : List Itm := (raw ns).mergeSort fun x y => decide (leI x y)
/-- Each size is 1 at least. -/
def Pos (ns : List (List Nat)) : Prop := ∀ l ∈ ns, ∀ x ∈ l, 1 ≤ x

theorem rawTo_succ (ns : List (List Nat)) (k : Nat) : rawTo ns (k + 1) = rawTo ns k ++ rawQ k (ns.getD k []) := by
  unfold rawTo; rw [List.range_succ, List.flatMap_append]; simp
theorem take_sum_succN {l : List Nat} {i : Nat} (h : i < l.length) : (l.take (i + 1)).sum = (l.take i).sum + l.getD i 0 := by
  rw [List.take_add_one, List.sum_append, List.getD_eq_getElem?_getD, List.getElem?_eq_getElem h]; simp
theorem take_sum_monoN (l : List Nat) {i : Nat} : ∀ {j : Nat}, i ≤ j → (l.take i).sum ≤ (l.take j).sum
  | 0, h => by rw [show i = 0 by omega]; exact Nat.le_refl _
  | j + 1, h => by
    rcases Nat.lt_or_ge i (j + 1) with h1 | h1
    · have := take_sum_monoN l (j := j) (by omega : i ≤ j)
      rw [List.take_add_one, List.sum_append]; omega
    · rw [show i = j + 1 by omega]; exact Nat.le_refl _
theorem take_sum_lt {l : List Nat} (h : ∀ x ∈ l, 1 ≤ x) {i j : Nat} (hij : i < j) (hj : j ≤ l.length) : (l.take i).sum < (l.take j).sum := by
  have h1 := take_sum_monoN l (show i + 1 ≤ j by omega)
  rw [take_sum_succN (by omega)] at h1
  have h2 : 1 ≤ l.getD i 0 := by rw [List.getD_eq_getElem?_getD, List.getElem?_eq_getElem (by omega)]; exact h _ (List.getElem_mem _)
  omega
theorem mem_rawQ {q : Nat} {l : List Nat} {x : Itm} : x ∈ rawQ q l ↔ ∃ i, i < l.length ∧ x = itAt q l i := by
  unfold rawQ; simp only [List.mem_map, List.mem_range]; exact ⟨fun ⟨i, h, e⟩ => ⟨i, h, e.symm⟩, fun ⟨i, h, e⟩ => ⟨i, h, e.symm⟩⟩
theorem mem_raw {ns : List (List Nat)} {x : Itm} : x ∈ raw ns ↔ ∃ q i, q < ns.length ∧ i < (ns.getD q []).length ∧ x = itAt q (ns.getD q []) i := by
  unfold raw rawTo; simp only [List.mem_flatMap, List.mem_range, mem_rawQ]
  exact ⟨fun ⟨q, h, i, g, e⟩ => ⟨q, i, h, g, e⟩, fun ⟨q, i, h, g, e⟩ => ⟨q, h, i, g, e⟩⟩
theorem getD_pos {ns : List (List Nat)} (h : Pos ns) (q : Nat) : ∀ x ∈ ns.getD q [], 1 ≤ x := by
  intro x hx
  rcases Nat.lt_or_ge q ns.length with h1 | h1
  · rw [List.getD_eq_getElem?_getD, List.getElem?_eq_getElem h1] at hx; exact h _ (List.getElem_mem h1) x hx
  · rw [List.getD_eq_getElem?_getD, List.getElem?_eq_none h1] at hx; simp at hx
theorem raw_uniq {ns : List (List Nat)} (h : Pos ns) : ∀ x ∈ raw ns, ∀ y ∈ raw ns, leI x y → leI y x → x = y := by
  intro x hx y hy h1 h2
  obtain ⟨q, i, hq, hi, rfl⟩ := mem_raw.1 hx
  obtain ⟨q', j, hq', hj, rfl⟩ := mem_raw.1 hy
  unfold leI ltI itAt at h1 h2
  simp only at h1 h2
  obtain rfl : q = q' := by omega
  have hs : ((ns.getD q []).take (i + 1)).sum = ((ns.getD q []).take (j + 1)).sum := by omega
  have hp := getD_pos h q
  obtain rfl : i = j := by
    rcases Nat.lt_trichotomy i j with h3 | h3 | h3
    · have := take_sum_lt hp (show i + 1 < j + 1 by omega) (by omega); omega
    · exact h3
    · have := take_sum_lt hp (show j + 1 < i + 1 by omega) (by omega); omega
  rfl
theorem rnd_perm (ns : List (List Nat)) : (rnd ns).Perm (raw ns) := List.mergeSort_perm _ _
theorem rnd_srt (ns : List (List Nat)) : Srt (rnd ns) := by
  have h := List.pairwise_mergeSort (le := fun x y : Itm => decide (leI x y)) (fun a b c h g => by simp only [decide_eq_true_eq] at *; exact leI_trans h g) (fun a b => by rcases leI_total a b with h | h <;> simp [h]) (raw ns)
  exact h.imp (fun h => by simpa using h)
theorem rnd_eq {ns : List (List Nat)} (h : Pos ns) {C : List Itm} (hp : C.Perm (raw ns)) (hs : Srt C) : C = rnd ns :=
  srt_uniq hs (rnd_srt ns) (hp.trans (rnd_perm ns).symm) fun x hx y hy => raw_uniq h x (hp.mem_iff.1 hx) y (hp.mem_iff.1 hy)
theorem rawQ_srt {l : List Nat} (h : ∀ x ∈ l, 1 ≤ x) (q : Nat) : Srt (rawQ q l) := by
  unfold rawQ Srt
  rw [List.pairwise_map]
  refine List.Pairwise.imp_of_mem (R := (· < ·)) ?_ List.pairwise_lt_range
  intro i j hi hj hij
  have hi := List.mem_range.1 hi
  have hj := List.mem_range.1 hj
  have := take_sum_lt h (show i + 1 < j + 1 by omega) (by omega)
  unfold leI ltI itAt; simp only; omega
theorem filter_rawQ (q c : Nat) (l : List Nat) : (rawQ q l).filter (fun x => x.1 == c) = if q = c then rawQ q l else [] := by
  split
  · next h => subst h; exact List.filter_eq_self.2 fun x hx => by obtain ⟨i, _, rfl⟩ := mem_rawQ.1 hx; simp [itAt]
  · next h => exact List.filter_eq_nil_iff.2 fun x hx => by obtain ⟨i, _, rfl⟩ := mem_rawQ.1 hx; simpa [itAt] using h
theorem filter_rawTo (ns : List (List Nat)) (c : Nat) : ∀ k, (rawTo ns k).filter (fun x => x.1 == c) = if c < k then rawQ c (ns.getD c []) else []
  | 0 => by simp [rawTo]
  | k + 1 => by
    rw [rawTo_succ, List.filter_append, filter_rawTo ns c k, filter_rawQ]
    by_cases h1 : c < k
    · rw [if_pos h1, if_neg (by omega), if_pos (by omega), List.append_nil]
    · by_cases h2 : k = c
      · subst h2; rw [if_neg h1, if_pos rfl, if_pos (by omega), List.nil_append]
      · rw [if_neg h1, if_neg h2, if_neg (by omega)]; rfl
/-- The things of one queue come in its own order. -/
theorem filter_rnd {ns : List (List Nat)} (h : Pos ns) {c : Nat} (hc : c < ns.length) : (rnd ns).filter (fun x => x.1 == c) = rawQ c (ns.getD c []) := by
  have hp : ((rnd ns).filter (fun x => x.1 == c)).Perm (rawQ c (ns.getD c [])) := by
    have h1 := (rnd_perm ns).filter (fun x => x.1 == c)
    unfold raw at h1
    rw [filter_rawTo, if_pos hc] at h1
    exact h1
  refine srt_uniq ((rnd_srt ns).filter _) (rawQ_srt (getD_pos h c) c) hp fun x hx y hy => ?_
  exact raw_uniq h x ((rnd_perm ns).mem_iff.1 (List.mem_filter.1 hx).1) y ((rnd_perm ns).mem_iff.1 (List.mem_filter.1 hy).1)
theorem mem_rnd {ns : List (List Nat)} {x : Itm} : x ∈ rnd ns ↔ ∃ q i, q < ns.length ∧ i < (ns.getD q []).length ∧ x = itAt q (ns.getD q []) i := by
  rw [(rnd_perm ns).mem_iff, mem_raw]
theorem rawQ_get {q : Nat} {l : List Nat} {i : Nat} : (rawQ q l)[i]? = if i < l.length then some (itAt q l i) else none := by
  unfold rawQ
  rw [List.getElem?_map]
  split
  · next h => rw [List.getElem?_range h]; rfl
  · next h => rw [List.getElem?_eq_none (by simpa using h)]; rfl
/-- Where a thing stands, so many of its queue stand before it as its place says. -/
theorem rnd_place {ns : List (List Nat)} (h : Pos ns) {i : Nat} {x : Itm} (hx : (rnd ns)[i]? = some x) : ((rnd ns).take i).countP (fun y => y.1 == x.1) = x.2.1 ∧ x = itAt x.1 (ns.getD x.1 []) x.2.1 ∧ x.1 < ns.length ∧ x.2.1 < (ns.getD x.1 []).length := by
  obtain ⟨q, p, hq, hp, rfl⟩ := mem_rnd.1 (List.mem_iff_getElem?.2 ⟨i, hx⟩)
  have hi := (List.getElem?_eq_some_iff.1 hx).1
  refine ⟨?_, rfl, hq, hp⟩
  have hf := filter_rnd h hq
  have hsp : rnd ns = (rnd ns).take i ++ itAt q (ns.getD q []) p :: (rnd ns).drop (i + 1) := by
    conv => lhs; rw [← List.take_append_drop i (rnd ns), List.drop_eq_getElem_cons hi]
    obtain ⟨_, hx⟩ := List.getElem?_eq_some_iff.1 hx
    rw [hx]
  rw [hsp, List.filter_append, List.filter_cons, if_pos (by simp [itAt])] at hf
  have hl := rawQ_get (q := q) (l := ns.getD q []) (i := (((rnd ns).take i).filter fun x => x.1 == q).length)
  rw [← hf, List.getElem?_append_right (Nat.le_refl _), Nat.sub_self, List.getElem?_cons_zero] at hl
  split at hl
  · simp only [Option.some.injEq, itAt, Prod.mk.injEq] at hl
    rw [List.countP_eq_length_filter]; exact hl.2.1.symm
  · cases hl
def lens (ns : List (List Nat)) : Nat := (ns.map List.length).sum
theorem rawTo_len (ns : List (List Nat)) : ∀ k, k ≤ ns.length → (rawTo ns k).length = ((ns.take k).map List.length).sum
  | 0, _ => by simp [rawTo]
  | k + 1, h => by
    rw [rawTo_succ, List.length_append, rawTo_len ns k (by omega), List.take_add_one, List.map_append, List.sum_append, List.getD_eq_getElem?_getD, List.getElem?_eq_getElem (by omega)]
    simp [rawQ]
theorem rnd_len (ns : List (List Nat)) : (rnd ns).length = lens ns := by
  rw [(rnd_perm ns).length_eq]; unfold raw lens; rw [rawTo_len ns _ (Nat.le_refl _), List.take_length]
/-- When each ends. -/
def endAt (S : List Itm) (j : Nat) : Nat := ((S.take j).map fun x => x.2.2.2).sum
def bitOf (ns : List (List Nat)) (r : Nat) : Nat := (ns.map fun l => min l.sum r).sum

/-- What is served by round r. -/
def within (r : Nat) (L : List Itm) : Nat := ((L.filter fun x => decide (x.2.2.1 ≤ r)).map fun x => x.2.2.2).sum
theorem within_app (r : Nat) (a b : List Itm) : within r (a ++ b) = within r a + within r b := by
  unfold within; rw [List.filter_append, List.map_append, List.sum_append]
theorem within_perm {r : Nat} {a b : List Itm} (h : a.Perm b) : within r a = within r b :=
  ((h.filter _).map _).sum_nat
theorem within_part (q : Nat) (l : List Nat) (r : Nat) : ∀ k, k ≤ l.length → within r ((List.range k).map (itAt q l)) ≤ r ∧ within r ((List.range k).map (itAt q l)) ≤ (l.take k).sum
  | 0, _ => by simp [within]
  | k + 1, h => by
    obtain ⟨h1, h2⟩ := within_part q l r k (by omega)
    have h3 := take_sum_succN (show k < l.length by omega)
    rw [List.range_succ, List.map_append, within_app]
    by_cases h4 : (l.take (k + 1)).sum ≤ r
    · have h5 : within r [itAt q l k] = l.getD k 0 := by
        unfold within; rw [List.filter_cons, if_pos (by simpa [itAt] using h4)]; simp [itAt]
      rw [List.map_cons, List.map_nil, h5]; omega
    · have h5 : within r [itAt q l k] = 0 := by
        unfold within; rw [List.filter_cons, if_neg (by simpa [itAt] using h4)]; simp
      rw [List.map_cons, List.map_nil, h5]; omega
theorem within_rawTo (ns : List (List Nat)) (r : Nat) : ∀ k, k ≤ ns.length → within r (rawTo ns k) ≤ ((ns.take k).map fun l => min l.sum r).sum
  | 0, _ => by simp [rawTo, within]
  | k + 1, h => by
    have h1 := within_rawTo ns r k (by omega)
    obtain ⟨g1, g2⟩ := within_part k (ns.getD k []) r (ns.getD k []).length (Nat.le_refl _)
    rw [List.take_length] at g2
    rw [rawTo_succ, within_app, List.take_add_one, List.map_append, List.sum_append]
    have h2 : (((ns[k]?).toList).map fun l => min l.sum r).sum = min (ns.getD k []).sum r := by
      rw [List.getD_eq_getElem?_getD, List.getElem?_eq_getElem (by omega)]; simp
    rw [h2]
    show _ + within r ((List.range (ns.getD k []).length).map (itAt k (ns.getD k []))) ≤ _
    omega
/-- Nothing ends later than bit by bit. -/
theorem end_bit {ns : List (List Nat)} {i : Nat} {x : Itm} (hx : (rnd ns)[i]? = some x) : endAt (rnd ns) (i + 1) ≤ bitOf ns x.2.2.1 := by
  have h1 : ∀ y ∈ (rnd ns).take (i + 1), y.2.2.1 ≤ x.2.2.1 := fun y hy => by
    obtain ⟨j, hj, hy⟩ := mem_take_at hy
    have := (rnd_srt ns).get hy hx (by omega)
    unfold leI ltI at this; omega
  have h2 : endAt (rnd ns) (i + 1) = within x.2.2.1 ((rnd ns).take (i + 1)) := by
    unfold endAt within; rw [List.filter_eq_self.2 fun y hy => by simpa using h1 y hy]
  have h3 : within x.2.2.1 (rnd ns) = within x.2.2.1 ((rnd ns).take (i + 1)) + within x.2.2.1 ((rnd ns).drop (i + 1)) := by
    rw [← within_app, List.take_append_drop]
  have h4 := within_perm (r := x.2.2.1) (rnd_perm ns)
  have h5 := within_rawTo ns x.2.2.1 ns.length (Nat.le_refl _)
  rw [List.take_length] at h5
  unfold raw at h4
  unfold bitOf
  omega
theorem end_succ {S : List Itm} {i : Nat} {x : Itm} (hx : S[i]? = some x) : endAt S (i + 1) = endAt S i + x.2.2.2 := by
  unfold endAt; rw [List.take_add_one, hx, List.map_append, List.sum_append]; simp
theorem bit_mono (ns : List (List Nat)) {r s : Nat} (h : r ≤ s) : bitOf ns r ≤ bitOf ns s := by
  unfold bitOf
  induction ns with
  | nil => simp
  | cons l ns ih => simp only [List.map_cons, List.sum_cons]; omega
theorem rnd_size {ns : List (List Nat)} (h : Pos ns) {i : Nat} {x : Itm} (hx : (rnd ns)[i]? = some x) : 1 ≤ x.2.2.2 ∧ x.2.2.2 = (ns.getD x.1 []).getD x.2.1 0 := by
  obtain ⟨-, h2, h3, h4⟩ := rnd_place h hx
  have e : x.2.2.2 = (ns.getD x.1 []).getD x.2.1 0 := by rw [h2]; rfl
  refine ⟨?_, e⟩
  rw [e, List.getD_eq_getElem?_getD, List.getElem?_eq_getElem h4]
  exact getD_pos h _ _ (List.getElem_mem h4)
end Go.Proofs.YtpfpaheafpibiaaDoor
