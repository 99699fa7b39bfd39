/- Plain: the laws of telling all: who is told, how many copies, who tells whom. -/
import Derived.Test.YtnmddgjgmdegoaaDoorFloodPlain
namespace Go.Proofs.YtnmddgjgmdegoaaDoor
set_option linter.unusedVariables false

variable {n : Nat} {L : List Lnk} {o : Nat}
theorem rch_step (hok : VOk n L) (ho : o < n) {u v : Nat} (hu : u < n) (hv : v < n) (hc : cst L u v < 1000) (hr : Rch L o u) : Rch L o v := by
  have he := hok.net.sym _ _ _ (cst_edge hok (u := u) (v := v) (by omega))
  have h8 := hok.n8
  have hr' : far (edges L) u o < 1000 := hr
  rcases (far_dst hok.net h8 ho (u := u)).1 with h | ⟨j, h⟩
  · omega
  · obtain ⟨i, d, hi, hw, hd⟩ := ((Wk.one he).app h).short hok.net ho
    have h1 := hw.top hok.net
    have h2 := (far_dst hok.net h8 ho (u := v)).2.2 _ _ hw
    show far (edges L) v o < 1000
    omega
theorem cst_swap (hok : VOk n L) {u v : Nat} (hc : cst L u v < 1000) : cst L v u < 1000 := by
  have he := hok.net.sym _ _ _ (cst_edge hok (u := u) (v := v) (by omega))
  have := (cst_lt hok he).2
  omega
theorem cst_in (hok : VOk n L) {u v : Nat} (hc : cst L u v < 1000) : u < n ∧ v < n ∧ u ≠ v := by
  have he := cst_edge hok (u := u) (v := v) (by omega)
  have := hok.net.dom _ _ _ he
  exact ⟨this.1, this.2.1, this.2.2.1⟩
theorem rch_self (hok : VOk n L) (o : Nat) : Rch L o o := by unfold Rch; rw [far_self hok.net]; decide
theorem copies_pos (hok : VOk n L) (ho : o < n) {v : Nat} (hv : v < n) (hne : ¬ v = o) : 0 < copies n L o v ↔ Rch L o v := by
  unfold copies
  rw [List.countP_pos_iff]
  constructor
  · rintro ⟨p, hp, h⟩
    rw [Bool.and_eq_true, decide_eq_true_eq, decide_eq_true_eq] at h
    have h2 := (mem_outs.1 h.2).1
    exact rch_step hok ho (List.mem_range.1 hp) hv h2.2 h.1
  · intro hr
    obtain ⟨b, h1, h2, h3, h4, h5⟩ := by_hop hok ho hv hne hr
    refine ⟨b, List.mem_range.2 h2, ?_⟩
    rw [Bool.and_eq_true, decide_eq_true_eq, decide_eq_true_eq]
    exact ⟨h4, mem_outs.2 ⟨⟨hv, cst_swap hok h3⟩, by_not_back hok ho hv hne hr h1⟩⟩
theorem countP_psum (f : Nat → Bool) : ∀ n, (List.range n).countP f = psum (fun i => if f i = true then 1 else 0) n
  | 0 => rfl
  | n + 1 => by
    rw [List.range_succ, List.countP_append, countP_psum f n, psum]
    by_cases h : f n = true
    · simp [h]
    · simp [h]
theorem psum_mono {f g : Nat → Nat} : ∀ {n : Nat}, (∀ i, i < n → f i ≤ g i) → psum f n ≤ psum g n
  | 0, _ => Nat.le_refl _
  | n + 1, h => by
    have h1 := psum_mono (n := n) fun i hi => h i (by omega)
    have h2 := h n (by omega)
    rw [psum, psum]; omega
theorem psum_zero {f : Nat → Nat} : ∀ {n : Nat}, (∀ i, i < n → f i = 0) → psum f n = 0
  | 0, _ => rfl
  | n + 1, h => by rw [psum, psum_zero fun i hi => h i (by omega), h n (by omega)]
theorem psum_one {f : Nat → Nat} {n j : Nat} (hj : j < n) (h1 : f j = 1) (h0 : ∀ i, i < n → i ≠ j → f i = 0) : psum f n = 1 := by
  induction n with
  | zero => omega
  | succ n ih =>
    rw [psum]
    by_cases e : j = n
    · subst e; rw [psum_zero fun i hi => h0 i (by omega) (by omega), h1]
    · rw [ih (by omega) fun i hi hne => h0 i (by omega) hne, h0 n (by omega) (by omega)]
theorem psum_twice (a : Nat → Nat → Nat) (hs : ∀ i k, a i k = a k i) (h0 : ∀ i, a i i = 0) : ∀ n, psum (fun v => psum (fun p => a p v) n) n = 2 * psum (fun i => psum (fun k => a i k) i) n
  | 0 => rfl
  | n + 1 => by
    have ih := psum_twice a hs h0 n
    have e1 : (fun v => psum (fun p => a p v) (n + 1)) = fun v => psum (fun p => a p v) n + a n v := by funext v; rw [psum]
    have e2 : psum (fun p => a p n) n = psum (fun k => a n k) n := psum_congr fun i _ => hs i n
    rw [e1, psum_add]
    simp only [psum]
    have e3 : psum (fun k => a n k) n = psum (a n) n := rfl
    rw [ih, h0, e2]
    omega
def adj (L : List Lnk) (i k : Nat) : Nat := if cst L i k < 1000 then 1 else 0
def pairsTo (L : List Lnk) (i : Nat) : Nat := psum (fun i => psum (adj L i) i) i
theorem sent_le (hok : VOk n L) : sentOf n L o ≤ 2 * pairsTo L n := by
  have hs : ∀ i k, adj L i k = adj L k i := fun i k => by
    unfold adj
    by_cases h : cst L i k < 1000
    · rw [if_pos h, if_pos (cst_swap hok h)]
    · rw [if_neg h, if_neg fun g => h (cst_swap hok g)]
  have h0 : ∀ i, adj L i i = 0 := fun i => by
    unfold adj
    rw [if_neg fun h => (cst_in hok h).2.2 rfl]
  unfold pairsTo
  rw [← psum_twice (adj L) hs h0]
  unfold sentOf
  refine psum_mono fun v hv => ?_
  unfold copies
  rw [countP_psum]
  refine psum_mono fun p hp => ?_
  unfold adj
  by_cases h : (decide (Rch L o p) && decide (v ∈ outs n L o p)) = true
  · rw [if_pos h]
    rw [Bool.and_eq_true, decide_eq_true_eq, decide_eq_true_eq] at h
    rw [if_pos (mem_outs.1 h.2).1.2]
    exact Nat.le_refl _
  · rw [if_neg h]; omega
/-- Kids of a point. -/
def kidB (n : Nat) (L : List Lnk) (o at' i : Nat) : Bool := decide (¬ i = o) && decide (byOf n L o i = (at' : Int))
def kidL (n : Nat) (L : List Lnk) (o at' k : Nat) : List Nat := (List.range k).filter (kidB n L o at')
theorem kidL_succ (n : Nat) (L : List Lnk) (o at' k : Nat) : kidL n L o at' (k + 1) = kidL n L o at' k ++ (if kidB n L o at' k = true then [k] else []) := by
  unfold kidL
  rw [List.range_succ, List.filter_append]
  by_cases h : kidB n L o at' k = true
  · rw [if_pos h, List.filter_cons_of_pos h]; rfl
  · rw [if_neg h, List.filter_cons_of_neg h]; rfl
theorem kidL_len (n : Nat) (L : List Lnk) (o at' k : Nat) : (kidL n L o at' k).length ≤ k := by
  have := List.length_filter_le (kidB n L o at') (List.range k)
  rwa [List.length_range] at this
theorem kidL_sorted (n : Nat) (L : List Lnk) (o at' k : Nat) : (kidL n L o at' k).Pairwise (· < ·) := List.pairwise_lt_range.filter _
theorem kid_far (hok : VOk n L) (ho : o < n) {a i : Nat} (h : i ∈ kidL n L o a n) : i < n ∧ ¬ i = o ∧ Rch L o i ∧ byOf n L o i = (a : Int) ∧ far (edges L) o a < far (edges L) o i := by
  unfold kidL kidB at h
  rw [List.mem_filter, List.mem_range, Bool.and_eq_true, decide_eq_true_eq, decide_eq_true_eq] at h
  obtain ⟨hi, hne, hb⟩ := h
  have hr : Rch L o i := by
    by_cases hr : Rch L o i
    · exact hr
    · have := by_far hr hok; omega
  obtain ⟨b, h1, h2, h3, h4, h5⟩ := by_hop hok ho hi hne hr
  obtain rfl : b = a := by omega
  exact ⟨hi, hne, hr, hb, by rw [far_swap hok.net (u := o) (v := b), far_swap hok.net (u := o) (v := i)]; exact h5⟩
/-- How many of the points before a tell i. -/
def tld (n : Nat) (L : List Lnk) (o a i : Nat) : Nat := psum (fun a => if kidB n L o a i = true then 1 else 0) a
theorem tld_end (hok : VOk n L) (ho : o < n) {i : Nat} (hi : i < n) : tld n L o n i = if ¬ i = o ∧ Rch L o i then 1 else 0 := by
  unfold tld
  by_cases h : ¬ i = o ∧ Rch L o i
  · rw [if_pos h]
    obtain ⟨b, h1, h2, -⟩ := by_hop hok ho hi h.1 h.2
    refine psum_one h2 ?_ fun a ha hne => ?_
    · rw [if_pos]; unfold kidB; rw [Bool.and_eq_true, decide_eq_true_eq, decide_eq_true_eq]; exact ⟨h.1, h1⟩
    · rw [if_neg]; unfold kidB; rw [Bool.and_eq_true, decide_eq_true_eq, decide_eq_true_eq]; rintro ⟨-, g⟩; omega
  · rw [if_neg h]
    refine psum_zero fun a ha => ?_
    rw [if_neg]; unfold kidB; rw [Bool.and_eq_true, decide_eq_true_eq, decide_eq_true_eq]
    rintro ⟨g1, g2⟩
    refine h ⟨g1, ?_⟩
    by_cases hr : Rch L o i
    · exact hr
    · have := by_far hr hok; omega
end Go.Proofs.YtnmddgjgmdegoaaDoor
