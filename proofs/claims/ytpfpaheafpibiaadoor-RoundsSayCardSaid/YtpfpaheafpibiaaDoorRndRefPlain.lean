/- Plain: the document's choice, the least head, is the next thing in the order of the rounds. -/
import Derived.Test.YtpfpaheafpibiaaDoorRndRun
namespace Go.Proofs.YtpfpaheafpibiaaDoor
set_option linter.unusedVariables false

/-- How many of queue i are among the first t. -/
def cntS (S : List Itm) (t i : Nat) : Nat := (S.take t).countP fun y => y.1 == i
/-- The round of queue i's head. -/
def headR (ns : List (List Nat)) (S : List Itm) (t i : Nat) : Nat := ((ns.getD i []).take (cntS S t i + 1)).sum
def sumS (ns : List (List Nat)) (S : List Itm) (t i : Nat) : Nat := ((ns.getD i []).take (cntS S t i)).sum
def hasS (ns : List (List Nat)) (S : List Itm) (t i : Nat) : Prop := cntS S t i < (ns.getD i []).length
theorem headR_eq {ns : List (List Nat)} {S : List Itm} {t i : Nat} (h : hasS ns S t i) : headR ns S t i = sumS ns S t i + (ns.getD i []).getD (cntS S t i) 0 := take_sum_succN h
theorem cnt_zero (S : List Itm) (i : Nat) : cntS S 0 i = 0 := by simp [cntS]
theorem cnt_succ {S : List Itm} {t : Nat} {x : Itm} (hx : S[t]? = some x) (i : Nat) : cntS S (t + 1) i = if i = x.1 then cntS S t i + 1 else cntS S t i := by
  unfold cntS
  rw [List.take_add_one, hx, List.countP_append]
  by_cases h : i = x.1
  · subst h; simp
  · have : ¬ x.1 = i := fun e => h e.symm
    simp [h, this]
theorem next_has {ns : List (List Nat)} (h : Pos ns) {t : Nat} {x : Itm} (hx : (rnd ns)[t]? = some x) : x.1 < ns.length ∧ hasS ns (rnd ns) t x.1 ∧ x = itAt x.1 (ns.getD x.1 []) (cntS (rnd ns) t x.1) := by
  obtain ⟨h1, h2, h3, h4⟩ := rnd_place h hx
  have e : cntS (rnd ns) t x.1 = x.2.1 := h1
  refine ⟨h3, ?_, by rw [e]; exact h2⟩
  unfold hasS; rw [e]; exact h4
/-- The least head is next. -/
theorem next_is {ns : List (List Nat)} (h : Pos ns) {t b : Nat} {x : Itm} (hx : (rnd ns)[t]? = some x) (hb : b < ns.length) (hh : hasS ns (rnd ns) t b)
    (hl : ∀ j, j < ns.length → hasS ns (rnd ns) t j → headR ns (rnd ns) t b ≤ headR ns (rnd ns) t j ∧ (j < b → headR ns (rnd ns) t b < headR ns (rnd ns) t j)) : x = itAt b (ns.getD b []) (cntS (rnd ns) t b) := by
  obtain ⟨g1, g2, g3⟩ := next_has h hx
  obtain ⟨y, hy⟩ : ∃ y, y = itAt b (ns.getD b []) (cntS (rnd ns) t b) := ⟨_, rfl⟩
  have hmem : y ∈ rnd ns := mem_rnd.2 ⟨b, _, hb, hh, hy⟩
  obtain ⟨j, hj⟩ := List.mem_iff_getElem?.1 hmem
  have hjt : t ≤ j := by
    rcases Nat.lt_or_ge j t with h1 | h1
    · have p1 := (rnd_place h hj).1
      have e1 : y.1 = b := by rw [hy]; rfl
      have e2 : y.2.1 = cntS (rnd ns) t b := by rw [hy]; rfl
      rw [e1, e2] at p1
      have hs := cnt_succ hj b
      rw [if_pos e1.symm] at hs
      have hm : cntS (rnd ns) (j + 1) b ≤ cntS (rnd ns) t b := by
        unfold cntS
        have e : ((rnd ns).take t).take (j + 1) = (rnd ns).take (j + 1) := by rw [List.take_take, Nat.min_eq_left (by omega)]
        rw [← e]
        exact (List.take_sublist _ _).countP_le
      have e3 : cntS (rnd ns) j b = cntS (rnd ns) t b := p1
      omega
    · exact h1
  have l1 := (rnd_srt ns).get hx hj hjt
  have l2 : leI y x := by
    have hx1 := hl x.1 g1 g2
    have ey : y.2.2.1 = headR ns (rnd ns) t b := by rw [hy]; rfl
    have ex : x.2.2.1 = headR ns (rnd ns) t x.1 := by rw [g3]; rfl
    have e1 : y.1 = b := by rw [hy]; rfl
    unfold leI ltI
    omega
  rw [raw_uniq h x ((rnd_perm ns).mem_iff.1 (List.mem_iff_getElem?.2 ⟨t, hx⟩)) y ((rnd_perm ns).mem_iff.1 hmem) l1 l2, hy]
/-- What the search among the first i queues has found. -/
def BestI (ns : List (List Nat)) (S : List Itm) (t i : Nat) (b : Int) : Prop :=
  (b = -1 ∧ ∀ j, j < i → ¬ hasS ns S t j) ∨ ∃ k : Nat, b = (k : Int) ∧ k < i ∧ hasS ns S t k ∧ ∀ j, j < i → hasS ns S t j → headR ns S t k ≤ headR ns S t j ∧ (j < k → headR ns S t k < headR ns S t j)
theorem BestI.skip {ns : List (List Nat)} {S : List Itm} {t i : Nat} {b : Int} (h : BestI ns S t i b) (hn : ¬ hasS ns S t i) : BestI ns S t (i + 1) b := by
  rcases h with ⟨h1, h2⟩ | ⟨k, h1, h2, h3, h4⟩
  · refine .inl ⟨h1, fun j hj => ?_⟩
    rcases Nat.lt_or_ge j i with h5 | h5
    · exact h2 j h5
    · rw [show j = i by omega]; exact hn
  · refine .inr ⟨k, h1, by omega, h3, fun j hj hh => ?_⟩
    rcases Nat.lt_or_ge j i with h5 | h5
    · exact h4 j h5 hh
    · rw [show j = i by omega] at hh; exact absurd hh hn
theorem BestI.first {ns : List (List Nat)} {S : List Itm} {t i : Nat} (h : BestI ns S t i (-1)) (hn : hasS ns S t i) : BestI ns S t (i + 1) (i : Int) := by
  rcases h with ⟨_, h2⟩ | ⟨k, h1, _⟩
  · refine .inr ⟨i, rfl, by omega, hn, fun j hj hh => ?_⟩
    rcases Nat.lt_or_ge j i with h5 | h5
    · exact absurd hh (h2 j h5)
    · rw [show j = i by omega]; omega
  · omega
theorem BestI.keep {ns : List (List Nat)} {S : List Itm} {t i k : Nat} (h : BestI ns S t i (k : Int)) (hn : headR ns S t k ≤ headR ns S t i) : BestI ns S t (i + 1) (k : Int) := by
  rcases h with ⟨h1, _⟩ | ⟨k', h1, h2, h3, h4⟩
  · omega
  · obtain rfl : k = k' := by omega
    refine .inr ⟨k, rfl, by omega, h3, fun j hj hh => ?_⟩
    rcases Nat.lt_or_ge j i with h5 | h5
    · exact h4 j h5 hh
    · rw [show j = i by omega]; omega
theorem BestI.less {ns : List (List Nat)} {S : List Itm} {t i k : Nat} (h : BestI ns S t i (k : Int)) (hh : hasS ns S t i) (hn : headR ns S t i < headR ns S t k) : BestI ns S t (i + 1) (i : Int) := by
  rcases h with ⟨h1, _⟩ | ⟨k', h1, h2, h3, h4⟩
  · omega
  · obtain rfl : k = k' := by omega
    refine .inr ⟨i, rfl, by omega, hh, fun j hj hj2 => ?_⟩
    rcases Nat.lt_or_ge j i with h5 | h5
    · have := (h4 j h5 hj2).1; omega
    · rw [show j = i by omega]; omega
theorem BestI.ends {ns : List (List Nat)} (h : Pos ns) {t : Nat} {b : Int} {x : Itm} (hx : (rnd ns)[t]? = some x) (hb : BestI ns (rnd ns) t ns.length b) : b = (x.1 : Int) := by
  obtain ⟨g1, g2, g3⟩ := next_has h hx
  rcases hb with ⟨h1, h2⟩ | ⟨k, h1, h2, h3, h4⟩
  · exact absurd g2 (h2 _ g1)
  · have := next_is h hx h2 h3 h4
    rw [h1, this]; rfl
theorem next_round {ns : List (List Nat)} (h : Pos ns) {t : Nat} {x : Itm} (hx : (rnd ns)[t]? = some x) : x.2.2.1 = headR ns (rnd ns) t x.1 := by
  rw [(next_has h hx).2.2]; rfl
theorem sum_succS {ns : List (List Nat)} {S : List Itm} {t : Nat} {x : Itm} (hx : S[t]? = some x) (i : Nat) : sumS ns S (t + 1) i = if i = x.1 then headR ns S t i else sumS ns S t i := by
  unfold sumS
  rw [cnt_succ hx i]
  by_cases h : i = x.1
  · rw [if_pos h, if_pos h]; rfl
  · rw [if_neg h, if_neg h]
end Go.Proofs.YtpfpaheafpibiaaDoor
