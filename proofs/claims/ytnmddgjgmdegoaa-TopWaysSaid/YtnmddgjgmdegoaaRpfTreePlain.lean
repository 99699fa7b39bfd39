/- Plain: over a tree each one that can be reached gets one copy. -/
import Derived.Test.YtnmddgjgmdegoaaRpfLaws
import Derived.Test.YtnmddgjgmdegoaaTreePlain
namespace Go.Proofs.Ytnmddgjgmdegoaa
set_option linter.unusedVariables false

variable {n : Nat} {L : List Lnk} {o : Nat}
theorem nodup_sub : ∀ {l m : List Nat}, l.Nodup → (∀ x ∈ l, x ∈ m) → l.length ≤ m.length
  | [], _, _, _ => Nat.zero_le _
  | x :: l, m, hn, hs => by
    rw [List.nodup_cons] at hn
    have hx := hs x (List.mem_cons_self ..)
    have h1 := nodup_sub (l := l) (m := m.erase x) hn.2 fun y hy => (List.mem_erase_of_ne (fun e => hn.1 (by rw [← e]; exact hy))).2 (hs y (List.mem_cons_of_mem _ hy))
    rw [List.length_erase_of_mem hx] at h1
    have := List.length_pos_of_mem hx
    rw [List.length_cons]; omega
theorem left_sub (h : VOk n L) : ∀ e ∈ edges (leftR n L), e ∈ edges L := fun e he => by
  obtain ⟨x, hx, he⟩ := mem_edges.1 he
  obtain ⟨j, _, _, hj⟩ := (leftT_mem (Nat.le_refl _)).1 hx
  exact mem_edges.2 ⟨x, List.mem_iff_getElem?.2 ⟨j, hj⟩, he⟩
theorem root_same (h : VOk n L) (ho : o < n) {v : Nat} (hv : v < n) (hr : Rch L o v) : rootF n (edges L) v = rootF n (edges L) o := by
  have h8 := h.n8
  obtain ⟨a1, a2, a3⟩ := rootF_spec h.net hv
  obtain ⟨b1, b2, b3⟩ := rootF_spec h.net ho
  have hr' : far (edges L) v o < 1000 := hr
  have s0 := far_short h.net h8 ho hr'
  have s1 := far_short h.net h8 a1 a2
  have s2 := far_short h.net h8 b1 b2
  have t1 := far_tri h.net h8 ho b1 (u := v)
  have t2 := far_tri h.net h8 hv a1 (u := o)
  rw [far_swap h.net (u := o) (v := v)] at t2
  have := a3 _ b1 (by omega)
  have := b3 _ a1 (by omega)
  omega
theorem left_rch (h : VOk n L) (ho : o < n) {v : Nat} (hv : v < n) : Rch (leftR n L) o v ↔ Rch L o v := by
  have hT := left_ok h
  have h8 := h.n8
  constructor
  · intro hr
    have := far_mono hT.net h.net (left_sub h) (u := v) (v := o)
    have hr' : far (edges (leftR n L)) v o < 1000 := hr
    show far (edges L) v o < 1000
    omega
  · intro hr
    have e := root_same h ho hv hr
    have f1 := left_far h hv
    have f2 := left_far h ho
    obtain ⟨a1, a2, a3⟩ := rootF_spec h.net hv
    obtain ⟨b1, b2, b3⟩ := rootF_spec h.net ho
    have s1 := far_short h.net h8 a1 a2
    have s2 := far_short h.net h8 b1 b2
    rw [← f1] at s1
    rw [← f2] at s2
    rw [e] at s1
    have t := far_tri hT.net h8 b1 ho (u := v)
    rw [far_swap hT.net (u := rootF n (edges L) o) (v := o)] at t
    show far (edges (leftR n L)) v o < 1000
    omega
theorem adj_over (h : VOk n L) {u w : Nat} (ha : cst (leftR n L) u w < 1000) : overR n L u = (w : Int) ∨ overR n L w = (u : Int) := by
  have he := cst_edge (left_ok h) (u := u) (v := w) (by omega)
  obtain ⟨y, hy, he⟩ := mem_edges.1 he
  obtain ⟨j, hj, hu, hx⟩ := (leftT_mem (Nat.le_refl _)).1 hy
  obtain ⟨i, hi, h0, hb⟩ := usedT_iff.1 hu
  rcases over_cases h hi with ⟨_, e⟩ | ⟨_, k, e1, e2, e3, e4, q, x, e5, e6, e7, e8⟩
  · omega
  · obtain rfl : q = j := by rw [e5] at hb; omega
    rw [hx] at e7
    obtain rfl := Option.some.inj e7
    rcases he with he | he
    · simp only [Prod.mk.injEq] at he
      rcases e8 with ⟨g1, g2⟩ | ⟨g1, g2⟩
      · left; rw [show u = i by omega, show w = k by omega]; exact e1
      · right; rw [show u = k by omega, show w = i by omega]; exact e1
    · simp only [Prod.mk.injEq] at he
      rcases e8 with ⟨g1, g2⟩ | ⟨g1, g2⟩
      · right; rw [show u = k by omega, show w = i by omega]; exact e1
      · left; rw [show u = i by omega, show w = k by omega]; exact e1
theorem left_up (h : VOk n L) (ho : o < n) {u w : Nat} (hu : Rch (leftR n L) o u) (ha : cst (leftR n L) u w < 1000) : byOf n (leftR n L) o u = (w : Int) ∨ byOf n (leftR n L) o w = (u : Int) := by
  have hT := left_ok h
  obtain ⟨T, hTe⟩ : ∃ T, T = leftR n L := ⟨_, rfl⟩
  rw [← hTe] at hu ha hT ⊢
  have hadj : ∀ {u w : Nat}, cst T u w < 1000 → overR n L u = (w : Int) ∨ overR n L w = (u : Int) := fun g => adj_over h (by rw [← hTe]; exact g)
  have hover : ∀ {i : Nat}, i < n → Rch T o i → ¬ overR n L i < 0 → i ≠ rootF n (edges L) o := fun {i} hi hr h0 e => by
    have hrr := root_same h ho hi ((left_rch h ho hi).1 (by rw [← hTe]; exact hr))
    rcases over_cases h hi with ⟨_, g⟩ | ⟨g, _⟩
    · omega
    · exact g (by rw [hrr]; exact e.symm)
  obtain ⟨φ, hφ⟩ : ∃ φ : Nat → Nat, ∀ v, φ v = if overR n L v = byOf n T o v then v else (byOf n T o v).toNat := ⟨fun v => if overR n L v = byOf n T o v then v else (byOf n T o v).toNat, fun v => rfl⟩
  -- what φ is
  have hφ2 : ∀ {v : Nat}, v < n → ¬ v = o → Rch T o v → ∃ b : Nat, byOf n T o v = (b : Int) ∧ b < n ∧ Rch T o b ∧ ((φ v = v ∧ overR n L v = (b : Int)) ∨ (φ v = b ∧ overR n L b = (v : Int))) := fun {v} hv hne hr => by
    obtain ⟨b, h1, h2, h3, h4, h5⟩ := by_hop hT ho hv hne hr
    refine ⟨b, h1, h2, h4, ?_⟩
    rw [hφ]
    by_cases e : overR n L v = byOf n T o v
    · rw [if_pos e]; exact .inl ⟨rfl, by rw [e, h1]⟩
    · rw [if_neg e]
      rcases hadj h3 with g | g
      · exact absurd (g.trans h1.symm) e
      · exact .inr ⟨by rw [h1]; omega, g⟩
  obtain ⟨C, hC⟩ : ∃ C, C = (List.range n).filter fun v => decide (Rch T o v) := ⟨_, rfl⟩
  obtain ⟨A, hA⟩ : ∃ A, A = (List.range n).filter fun v => decide (¬ v = o) && decide (Rch T o v) := ⟨_, rfl⟩
  have memC : ∀ {x}, x ∈ C ↔ x < n ∧ Rch T o x := fun {x} => by rw [hC, List.mem_filter, List.mem_range, decide_eq_true_eq]
  have memA : ∀ {x}, x ∈ A ↔ x < n ∧ ¬ x = o ∧ Rch T o x := fun {x} => by rw [hA, List.mem_filter, List.mem_range, Bool.and_eq_true, decide_eq_true_eq, decide_eq_true_eq]
  have hCn : C.Nodup := by rw [hC]; exact List.nodup_range.filter _
  have hAn : A.Nodup := by rw [hA]; exact List.nodup_range.filter _
  have hlen : C.length ≤ A.length + 1 := by
    have := nodup_sub (m := o :: A) hCn fun x hx => by
      obtain ⟨h1, h2⟩ := memC.1 hx
      by_cases e : x = o
      · rw [e]; exact List.mem_cons_self ..
      · exact List.mem_cons_of_mem _ (memA.2 ⟨h1, e, h2⟩)
    rwa [List.length_cons] at this
  have hinj : ∀ x ∈ A, ∀ y ∈ A, φ x = φ y → x = y := fun x hx y hy e => by
    obtain ⟨x1, x2, x3⟩ := memA.1 hx
    obtain ⟨y1, y2, y3⟩ := memA.1 hy
    obtain ⟨b, p1, p2, p3, p4⟩ := hφ2 x1 x2 x3
    obtain ⟨c, q1, q2, q3, q4⟩ := hφ2 y1 y2 y3
    have nb1 := by_not_back hT ho x1 x2 x3 p1
    have nb2 := by_not_back hT ho y1 y2 y3 q1
    rcases p4 with ⟨p5, p6⟩ | ⟨p5, p6⟩
    · rcases q4 with ⟨q5, q6⟩ | ⟨q5, q6⟩
      · omega
      · obtain rfl : x = c := by omega
        exact absurd (show (x : Int) = _ from rfl) (fun _ => nb2 (by rw [p1]; omega))
    · rcases q4 with ⟨q5, q6⟩ | ⟨q5, q6⟩
      · obtain rfl : b = y := by omega
        exact absurd (show (x : Int) = _ from rfl) (fun _ => nb1 (by rw [q1]; omega))
      · obtain rfl : b = c := by omega
        omega
  have hmn : (A.map φ).Nodup := by
    rw [List.nodup_iff_pairwise_ne, List.pairwise_map]
    have := List.nodup_iff_pairwise_ne.1 hAn
    exact this.imp_of_mem fun hx hy hne e => hne (hinj _ hx _ hy e)
  have hin : ∀ x ∈ A.map φ, x < n ∧ Rch T o x ∧ ¬ overR n L x < 0 := fun x hx => by
    obtain ⟨v, hv, rfl⟩ := List.mem_map.1 hx
    obtain ⟨x1, x2, x3⟩ := memA.1 hv
    obtain ⟨b, p1, p2, p3, p4⟩ := hφ2 x1 x2 x3
    rcases p4 with ⟨p5, p6⟩ | ⟨p5, p6⟩
    · rw [p5]; exact ⟨x1, x3, by omega⟩
    · rw [p5]; exact ⟨p2, p3, by omega⟩
  have hsur : ∀ x, x < n → Rch T o x → ¬ overR n L x < 0 → x ∈ A.map φ := fun x hx hr h0 => by
    by_cases hm : x ∈ A.map φ
    · exact hm
    · exfalso
      have hroot : Rch T o (rootF n (edges L) o) := by
        have hb := (rootF_spec h.net ho)
        have : Rch L o (rootF n (edges L) o) := by
          show far (edges L) _ o < 1000
          rw [far_swap h.net]; exact hb.2.1
        rw [hTe]; exact (left_rch h ho hb.1).2 this
      have h1 : (rootF n (edges L) o :: x :: A.map φ).Nodup := by
        rw [List.nodup_cons, List.nodup_cons]
        refine ⟨fun hmem => ?_, hm, hmn⟩
        rcases List.mem_cons.1 hmem with e | e
        · exact hover hx hr h0 e.symm
        · obtain ⟨g1, g2, g3⟩ := hin _ e
          exact hover g1 g2 g3 rfl
      have h2 := nodup_sub (m := C) h1 fun y hy => by
        rcases List.mem_cons.1 hy with rfl | hy
        · exact memC.2 ⟨(rootF_spec h.net ho).1, hroot⟩
        · rcases List.mem_cons.1 hy with rfl | hy
          · exact memC.2 ⟨hx, hr⟩
          · exact memC.2 ⟨(hin _ hy).1, (hin _ hy).2.1⟩
      rw [List.length_cons, List.length_cons, List.length_map] at h2
      omega
  have hend : ∀ {i j : Nat}, i < n → Rch T o i → overR n L i = (j : Int) → byOf n T o i = (j : Int) ∨ byOf n T o j = (i : Int) := fun {i j} hi hr he => by
    obtain ⟨v, hv, e⟩ := List.mem_map.1 (hsur i hi hr (by omega))
    obtain ⟨x1, x2, x3⟩ := memA.1 hv
    obtain ⟨b, p1, p2, p3, p4⟩ := hφ2 x1 x2 x3
    rcases p4 with ⟨p5, p6⟩ | ⟨p5, p6⟩
    · left; rw [show i = v by omega, p1]; rw [show i = v by omega] at he; omega
    · right
      rw [show i = b by omega] at he
      rw [show j = v by omega, p1]; omega
  obtain ⟨hu1, hw1, _⟩ := cst_in hT ha
  rcases hadj ha with g | g
  · exact hend hu1 hu g
  · exact (hend hw1 (rch_step hT ho hu1 hw1 ha hu) g).symm
theorem left_copies (h : VOk n L) (ho : o < n) {v : Nat} (hv : v < n) : copies n (leftR n L) o v = if ¬ v = o ∧ Rch L o v then 1 else 0 := by
  have hT := left_ok h
  unfold copies
  rw [countP_psum]
  by_cases hc : ¬ v = o ∧ Rch L o v
  · rw [if_pos hc]
    have hr := (left_rch h ho hv).2 hc.2
    obtain ⟨b, h1, h2, h3, h4, h5⟩ := by_hop hT ho hv hc.1 hr
    refine psum_one h2 ?_ fun p hp hne => ?_
    · rw [if_pos]
      rw [Bool.and_eq_true, decide_eq_true_eq, decide_eq_true_eq]
      exact ⟨h4, mem_outs.2 ⟨⟨hv, cst_swap hT h3⟩, by_not_back hT ho hv hc.1 hr h1⟩⟩
    · rw [if_neg]
      rw [Bool.and_eq_true, decide_eq_true_eq, decide_eq_true_eq]
      rintro ⟨g1, g2⟩
      obtain ⟨⟨_, g3⟩, g4⟩ := mem_outs.1 g2
      rcases left_up h ho g1 g3 with e | e
      · exact g4 e.symm
      · omega
  · rw [if_neg hc]
    refine psum_zero fun p hp => ?_
    rw [if_neg]
    rw [Bool.and_eq_true, decide_eq_true_eq, decide_eq_true_eq]
    rintro ⟨g1, g2⟩
    obtain ⟨⟨_, g3⟩, g4⟩ := mem_outs.1 g2
    have hrv := rch_step hT ho hp hv g3 g1
    have hvo : v = o := by
      by_cases e : v = o
      · exact e
      · exact absurd ⟨e, (left_rch h ho hv).1 hrv⟩ hc
    rcases left_up h ho g1 g3 with e | e
    · exact g4 e.symm
    · rw [hvo, by_self] at e; omega
end Go.Proofs.Ytnmddgjgmdegoaa
