/- Plain: telling all by reverse paths: who passes on, how many copies come. -/
import Derived.Test.YtnmddgjgmdegoaaDoorVia
import Derived.Test.YtnmddgjgmdegoaaDoorTurns
namespace Go.Proofs.YtnmddgjgmdegoaaDoor
set_option linter.unusedVariables false

def nbrs (n : Nat) (L : List Lnk) (p : Nat) : List Nat := (List.range n).filter fun v => decide (cst L p v < 1000)
def byOf (n : Nat) (L : List Lnk) (o p : Nat) : Int := hopOf n (edges L) p o
def outs (n : Nat) (L : List Lnk) (o p : Nat) : List Nat := (nbrs n L p).filter fun v => decide (¬ (v : Int) = byOf n L o p)
def send (n : Nat) (L : List Lnk) (o p : Nat) : List (Nat × Nat) := (outs n L o p).map fun v => (v, p)
def good (n : Nat) (L : List Lnk) (o : Nat) (x : Nat × Nat) : Bool := decide (¬ x.1 = o) && decide (byOf n L o x.1 = (x.2 : Int))
def passers (n : Nat) (L : List Lnk) (o : Nat) (D : List (Nat × Nat)) : List Nat := o :: (D.filter (good n L o)).map (·.1)
theorem mem_nbrs {n : Nat} {L : List Lnk} {p v : Nat} : v ∈ nbrs n L p ↔ v < n ∧ cst L p v < 1000 := by simp [nbrs]
theorem mem_outs {n : Nat} {L : List Lnk} {o p v : Nat} : v ∈ outs n L o p ↔ (v < n ∧ cst L p v < 1000) ∧ ¬ (v : Int) = byOf n L o p := by
  unfold outs; rw [List.mem_filter, mem_nbrs]; simp
theorem nbrs_nodup (n : Nat) (L : List Lnk) (p : Nat) : (nbrs n L p).Nodup := List.nodup_range.filter _
theorem outs_nodup (n : Nat) (L : List Lnk) (o p : Nat) : (outs n L o p).Nodup := (nbrs_nodup n L p).filter _
theorem mem_send {n : Nat} {L : List Lnk} {o p : Nat} {x : Nat × Nat} : x ∈ send n L o p ↔ x.1 ∈ outs n L o p ∧ x.2 = p := by
  unfold send
  rw [List.mem_map]
  constructor
  · rintro ⟨v, hv, rfl⟩; exact ⟨hv, rfl⟩
  · rintro ⟨h, rfl⟩; exact ⟨_, h, rfl⟩
theorem send_nodup (n : Nat) (L : List Lnk) (o p : Nat) : (send n L o p).Nodup := by
  unfold send
  rw [List.nodup_iff_pairwise_ne, List.pairwise_map]
  exact (outs_nodup n L o p).imp fun h e => h (congrArg Prod.fst e)
theorem outs_len (n : Nat) (L : List Lnk) (o p : Nat) : (outs n L o p).length ≤ n := by
  have h1 := List.length_filter_le (fun v => decide (¬ ((v : Nat) : Int) = byOf n L o p)) (nbrs n L p)
  have h2 := List.length_filter_le (fun v => decide (cst L p v < 1000)) (List.range n)
  rw [List.length_range] at h2
  unfold outs nbrs at *
  omega
/-- Who was done (D), and who is to come (Q). -/
structure FInv (n : Nat) (L : List Lnk) (o : Nat) (D Q : List (Nat × Nat)) : Prop where
  eq : D ++ Q = (passers n L o D).flatMap (send n L o)
  nd : (passers n L o D).Nodup
variable {n : Nat} {L : List Lnk} {o : Nat} {D Q : List (Nat × Nat)}
theorem FInv.start (n : Nat) (L : List Lnk) (o : Nat) : FInv n L o [] (send n L o o) := ⟨by simp [passers], by simp [passers]⟩
theorem passers_snoc (x : Nat × Nat) : passers n L o (D ++ [x]) = passers n L o D ++ (if good n L o x = true then [x.1] else []) := by
  unfold passers
  rw [List.filter_append, List.map_append, List.cons_append]
  congr 2
  by_cases h : good n L o x = true
  · rw [if_pos h, List.filter_cons_of_pos h]; rfl
  · rw [if_neg h, List.filter_cons_of_neg h]; rfl
theorem flat_nodup : ∀ (P : List Nat), P.Nodup → (P.flatMap (send n L o)).Nodup
  | [], _ => by simp
  | p :: P, h => by
    rw [List.nodup_cons] at h
    rw [List.flatMap_cons, List.nodup_append]
    refine ⟨send_nodup n L o p, flat_nodup P h.2, fun x hx y hy e => ?_⟩
    subst e
    obtain ⟨q, hq, hx2⟩ := List.mem_flatMap.1 hy
    have h1 := (mem_send.1 hx).2
    have h2 := (mem_send.1 hx2).2
    exact h.1 (by rw [← h1, h2]; exact hq)
theorem FInv.nodup (h : FInv n L o D Q) : (D ++ Q).Nodup := by rw [h.eq]; exact flat_nodup _ h.nd
theorem FInv.step {x : Nat × Nat} (h : FInv n L o D (x :: Q)) : FInv n L o (D ++ [x]) (Q ++ (if good n L o x = true then send n L o x.1 else [])) := by
  have hn := h.nodup
  refine ⟨?_, ?_⟩
  · rw [passers_snoc, List.flatMap_append, ← h.eq]
    by_cases hg : good n L o x = true
    · rw [if_pos hg, if_pos hg]; simp
    · rw [if_neg hg, if_neg hg]; simp
  · rw [passers_snoc]
    by_cases hg : good n L o x = true
    · rw [if_pos hg, List.nodup_append]
      refine ⟨h.nd, by simp, fun a ha b hb e => ?_⟩
      rw [List.mem_singleton] at hb
      subst hb
      subst e
      have hg' := hg
      unfold good at hg'
      rw [Bool.and_eq_true, decide_eq_true_eq, decide_eq_true_eq] at hg'
      unfold passers at ha
      rcases List.mem_cons.1 ha with ha | ha
      · exact hg'.1 ha
      · obtain ⟨y, hy, he⟩ := List.mem_map.1 ha
        rw [List.mem_filter] at hy
        have hy2 := hy.2
        unfold good at hy2
        rw [Bool.and_eq_true, decide_eq_true_eq, decide_eq_true_eq] at hy2
        have e2 : y = x := by
          obtain ⟨y1, y2⟩ := y
          obtain ⟨x1, x2⟩ := x
          simp only at he hy2 hg'
          subst he
          have : (y2 : Int) = (x2 : Int) := by rw [← hy2.2, ← hg'.2]
          rw [show y2 = x2 by omega]
        subst e2
        rw [List.nodup_append] at hn
        exact hn.2.2 y hy.1 y (List.mem_cons_self ..) rfl
    · rw [if_neg hg, List.append_nil]; exact h.nd
theorem FInv.mem (h : FInv n L o D Q) {x : Nat × Nat} (hx : x ∈ D ++ Q) : x.2 ∈ passers n L o D ∧ x.1 ∈ outs n L o x.2 := by
  rw [h.eq] at hx
  obtain ⟨p, hp, hx⟩ := List.mem_flatMap.1 hx
  obtain ⟨h1, h2⟩ := mem_send.1 hx
  rw [h2]
  exact ⟨hp, h1⟩
theorem FInv.lt (h : FInv n L o D Q) (ho : o < n) : ∀ p ∈ passers n L o D, p < n := by
  intro p hp
  unfold passers at hp
  rcases List.mem_cons.1 hp with rfl | hp
  · exact ho
  · obtain ⟨x, hx, rfl⟩ := List.mem_map.1 hp
    exact (mem_outs.1 (h.mem (List.mem_append_left _ (List.mem_filter.1 hx).1)).2).1.1
theorem flat_len_le : ∀ (P : List Nat), (P.flatMap (send n L o)).length ≤ P.length * n
  | [] => by simp
  | p :: P => by
    have h1 := flat_len_le P
    have h2 := outs_len n L o p
    rw [List.flatMap_cons, List.length_append, List.length_cons, Nat.add_mul, Nat.one_mul]
    unfold send at *
    rw [List.length_map]
    omega
theorem FInv.few (h : FInv n L o D Q) (ho : o < n) : D.length + Q.length ≤ n * n := by
  rw [← List.length_append, h.eq]
  exact Nat.le_trans (flat_len_le _) (Nat.mul_le_mul_right _ (nodup_len n _ h.nd (h.lt ho)))

/-- The ones that can be reached. -/
def Rch (L : List Lnk) (o v : Nat) : Prop := far (edges L) v o < 1000
instance (L : List Lnk) (o v : Nat) : Decidable (Rch L o v) := inferInstanceAs (Decidable (_ < _))
theorem by_hop (hok : VOk n L) (ho : o < n) {v : Nat} (hv : v < n) (hne : ¬ v = o) (hr : Rch L o v) : ∃ b : Nat, byOf n L o v = (b : Int) ∧ b < n ∧ cst L v b < 1000 ∧ Rch L o b ∧ far (edges L) b o < far (edges L) v o := by
  have hr' : far (edges L) v o < 1000 := hr
  have hs := far_swap hok.net (u := v) (v := o)
  obtain ⟨x, hx, hvia⟩ := via_some hok ho hne (by rw [far_swap hok.net]; omega)
  obtain ⟨y, hy, hvy, hl⟩ : ∃ y, y < n ∧ Via L v o y ∧ ∀ z, z < y → ¬ Via L v o z := by
    have key : ∀ m, (∃ y, y < n ∧ y < m ∧ Via L v o y ∧ ∀ z, z < y → ¬ Via L v o z) ∨ ∀ z, z < m → ¬ Via L v o z := by
      intro m
      induction m with
      | zero => right; intro z hz; omega
      | succ m ih =>
        rcases ih with ⟨y, h1, h2, h3⟩ | h
        · exact .inl ⟨y, h1, by omega, h3⟩
        · by_cases hm : Via L v o m
          · by_cases hmn : m < n
            · exact .inl ⟨m, hmn, by omega, hm, h⟩
            · exact absurd hvia (h x (by omega))
          · right
            intro z hz
            by_cases e : z = m
            · subst e; exact hm
            · exact h z (by omega)
    rcases key (x + 1) with ⟨y, h1, _, h3⟩ | h
    · exact ⟨y, h1, h3⟩
    · exact absurd hvia (h x (by omega))
  have hh := via_hop hok ho hy hne (by rw [far_swap hok.net]; omega) hvy hl
  refine ⟨y, hh, hy, hvy.1, ?_, ?_⟩
  · have h1 := hvy.2
    have h2 := (hok.net.dom _ _ _ (cst_edge hok (u := v) (v := y) (by have := hvy.1; omega))).2.2.2.1
    show far (edges L) y o < 1000
    rw [far_swap hok.net (u := y) (v := o)]; omega
  · have h1 := hvy.2
    have h2 := (hok.net.dom _ _ _ (cst_edge hok (u := v) (v := y) (by have := hvy.1; omega))).2.2.2.1
    rw [far_swap hok.net (u := y) (v := o)]; omega
theorem by_self (n : Nat) (L : List Lnk) (o : Nat) : byOf n L o o = -1 := by unfold byOf hopOf; rw [if_pos (.inl rfl)]
theorem by_far {v : Nat} (hr : ¬ Rch L o v) (hok : VOk n L) : byOf n L o v = -1 := by
  unfold byOf hopOf
  have := far_le hok.net (u := v) (v := o)
  unfold Rch at hr
  rw [if_pos (.inr (by omega))]
theorem by_not_back (hok : VOk n L) (ho : o < n) {v b : Nat} (hv : v < n) (hne : ¬ v = o) (hr : Rch L o v) (hb : byOf n L o v = (b : Int)) : ¬ (v : Int) = byOf n L o b := by
  intro h
  obtain ⟨b', h1, h2, h3, h4, h5⟩ := by_hop hok ho hv hne hr
  obtain rfl : b = b' := by omega
  by_cases hbo : b = o
  · subst hbo; rw [by_self] at h; omega
  · obtain ⟨c, g1, g2, g3, g4, g5⟩ := by_hop hok ho h2 hbo h4
    obtain rfl : c = v := by omega
    omega
/-- In the end all that can be reached have passed it on. -/
theorem FInv.all (hok : VOk n L) (ho : o < n) (h : FInv n L o D []) (v : Nat) : v ∈ passers n L o D ↔ v < n ∧ Rch L o v := by
  have heq := h.eq
  rw [List.append_nil] at heq
  constructor
  · intro hv
    refine ⟨h.lt ho v hv, ?_⟩
    unfold passers at hv
    rcases List.mem_cons.1 hv with rfl | hv
    · unfold Rch; rw [far_self hok.net]; decide
    · obtain ⟨x, hx, rfl⟩ := List.mem_map.1 hv
      have hg := (List.mem_filter.1 hx).2
      unfold good at hg
      rw [Bool.and_eq_true, decide_eq_true_eq, decide_eq_true_eq] at hg
      by_cases hr : Rch L o x.1
      · exact hr
      · have := by_far hr hok; omega
  · rintro ⟨hv, hr⟩
    have key : ∀ (m : Nat) (v : Nat), v < n → Rch L o v → far (edges L) v o ≤ (m : Int) → v ∈ passers n L o D := by
      intro m
      induction m with
      | zero =>
        intro v hv hr hm
        by_cases e : v = o
        · subst e; exact List.mem_cons_self ..
        · have := far_apart hok.net hok.n8 ho e; omega
      | succ m ih =>
        intro v hv hr hm
        by_cases e : v = o
        · subst e; exact List.mem_cons_self ..
        · obtain ⟨b, h1, h2, h3, h4, h5⟩ := by_hop hok ho hv e hr
          have hb := ih b h2 h4 (by omega)
          have hcs : cst L b v < 1000 := by
            have he := cst_edge hok (u := v) (v := b) (by omega)
            have := (cst_lt hok (hok.net.sym _ _ _ he)).2
            omega
          have hvo : v ∈ outs n L o b := mem_outs.2 ⟨⟨hv, hcs⟩, by_not_back hok ho hv e hr h1⟩
          have hmem : (v, b) ∈ D := by
            rw [heq]
            exact List.mem_flatMap.2 ⟨b, hb, mem_send.2 ⟨hvo, rfl⟩⟩
          refine List.mem_cons_of_mem _ (List.mem_map.2 ⟨(v, b), List.mem_filter.2 ⟨hmem, ?_⟩, rfl⟩)
          unfold good
          rw [Bool.and_eq_true, decide_eq_true_eq, decide_eq_true_eq]
          exact ⟨e, h1⟩
    have := far_nonneg hok.net (u := v) (v := o)
    exact key (far (edges L) v o).toNat v hv hr (by omega)

/-- How many copies come to a point. -/
def copies (n : Nat) (L : List Lnk) (o v : Nat) : Nat := (List.range n).countP fun p => decide (Rch L o p) && decide (v ∈ outs n L o p)
theorem send_count (v p : Nat) : (send n L o p).countP (fun x => decide (x.1 = v)) = if v ∈ outs n L o p then 1 else 0 := by
  unfold send
  rw [List.countP_map]
  have : ((fun x : Nat × Nat => decide (x.1 = v)) ∘ fun u => (u, p)) = fun u => u == v := by funext u; rw [Bool.eq_iff_iff]; simp
  rw [this, ← List.count_eq_countP', (outs_nodup n L o p).count]
theorem flat_count (v : Nat) : ∀ (P : List Nat), (P.flatMap (send n L o)).countP (fun x => decide (x.1 = v)) = P.countP fun p => decide (v ∈ outs n L o p)
  | [] => by simp
  | p :: P => by
    rw [List.flatMap_cons, List.countP_append, flat_count v P, send_count, List.countP_cons]
    by_cases h : v ∈ outs n L o p
    · rw [if_pos h, if_pos (by simpa using h)]; omega
    · rw [if_neg h, if_neg (by simpa using h)]; omega
theorem pass_count {P : List Nat} (hn : P.Nodup) (hm : ∀ v, v ∈ P ↔ v < n ∧ Rch L o v) (v : Nat) : P.countP (fun p => decide (v ∈ outs n L o p)) = copies n L o v := by
  have hp : P.Perm ((List.range n).filter fun p => decide (Rch L o p)) := (List.perm_ext_iff_of_nodup hn (List.nodup_range.filter _)).2 fun x => by
    rw [hm, List.mem_filter, List.mem_range, decide_eq_true_eq]
  rw [hp.countP_eq, List.countP_filter]
  unfold copies
  congr 1
  funext p
  rw [Bool.and_comm]
theorem count_sum : ∀ (D : List (Nat × Nat)), (∀ x ∈ D, x.1 < n) → D.length = psum (fun v => D.countP fun x => decide (x.1 = v)) n
  | [], _ => by
    have : ∀ k, psum (fun v => ([] : List (Nat × Nat)).countP fun x => decide (x.1 = v)) k = 0 := fun k => by
      induction k with
      | zero => rfl
      | succ k ih => rw [psum, ih]; simp
    rw [this]; rfl
  | x :: D, h => by
    have ih := count_sum D fun y hy => h y (List.mem_cons_of_mem _ hy)
    have hx := h x (List.mem_cons_self ..)
    have e : (fun v => (x :: D).countP fun y => decide (y.1 = v)) = fun v => (D.countP fun y => decide (y.1 = v)) + if v = x.1 then 1 else 0 := by
      funext v
      rw [List.countP_cons]
      by_cases hv : x.1 = v
      · rw [if_pos (by simpa using hv), if_pos hv.symm]
      · rw [if_neg (by simpa using hv), if_neg (fun e => hv e.symm)]
    have hone : ∀ k, psum (fun v => if v = x.1 then 1 else 0) k = if x.1 < k then 1 else 0 := fun k => by
      induction k with
      | zero => rfl
      | succ k ih =>
        rw [psum, ih]
        by_cases h1 : x.1 < k
        · rw [if_pos h1, if_neg (by omega), if_pos (by omega)]
        · by_cases h2 : k = x.1
          · rw [if_neg h1, if_pos h2, if_pos (by omega)]
          · rw [if_neg h1, if_neg h2, if_neg (by omega)]
    rw [List.length_cons, ih, e, psum_add, hone, if_pos hx]
def sentOf (n : Nat) (L : List Lnk) (o : Nat) : Nat := psum (copies n L o) n
theorem FInv.counts (hok : VOk n L) (ho : o < n) (h : FInv n L o D []) : (∀ v, D.countP (fun x => decide (x.1 = v)) = copies n L o v) ∧ D.length = sentOf n L o := by
  have heq := h.eq
  rw [List.append_nil] at heq
  have h1 : ∀ v, D.countP (fun x => decide (x.1 = v)) = copies n L o v := fun v => by
    rw [heq, flat_count]
    exact pass_count h.nd (fun v => h.all hok ho v) v
  refine ⟨h1, ?_⟩
  rw [count_sum (n := n) D fun x hx => (mem_outs.1 (h.mem (List.mem_append_left _ hx)).2).1.1]
  unfold sentOf
  exact psum_congr fun v _ => h1 v
theorem copies_le (v : Nat) : copies n L o v ≤ n := by
  unfold copies
  have := List.countP_le_length (p := fun p => decide (Rch L o p) && decide (v ∈ outs n L o p)) (l := List.range n)
  rwa [List.length_range] at this
end Go.Proofs.YtnmddgjgmdegoaaDoor
