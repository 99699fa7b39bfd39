/- Plain: the last eight that were heard stand last in the table. -/
import Derived.Test.YtommedhaaojgiaaDoorLearnLaw
namespace Go.Proofs.YtommedhaaojgiaaDoor
set_option linter.unusedVariables false

def keepL (l : List Int) (a : Int) : List Int := l.filter fun x => !decide (x = a)
def nextL (l : List Int) (a : Int) : List Int := keepL l a ++ [a]
def lastL (l : List Int) (a : Int) : List Int := if 8 < (nextL l a).length then (nextL l a).drop 1 else nextL l a
theorem keepL_yes {l : List Int} {k : Nat} {x a : Int} (hx : l[k]? = some x) (h : ¬ x = a) : keepL (l.take (k + 1)) a = keepL (l.take k) a ++ [x] := by
  unfold keepL
  rw [List.take_add_one, hx]
  simp [h]
theorem keepL_no {l : List Int} {k : Nat} {x a : Int} (hx : l[k]? = some x) (h : x = a) : keepL (l.take (k + 1)) a = keepL (l.take k) a := by
  unfold keepL
  rw [List.take_add_one, hx]
  simp [h]
theorem lastL_len (l : List Int) (a : Int) (h : l.length ≤ 8) : (lastL l a).length ≤ 8 := by
  have h1 : (nextL l a).length ≤ 9 := by unfold nextL keepL; rw [List.length_append, List.length_singleton]; have := List.length_filter_le (fun x => !decide (x = a)) l; omega
  unfold lastL
  split
  · rw [List.length_drop]; omega
  · omega
theorem gone_filter : ∀ {T : Tab} {a : Int}, (T.map (·.1)).Nodup → gone T a = T.filter fun x => !decide (x.1 = a)
  | [], a, _ => rfl
  | x :: r, a, hn => by
    rw [List.map_cons, List.nodup_cons] at hn
    by_cases h : x.1 = a
    · have h1 : tfind (x :: r) a = some 0 := by unfold tfind; rw [if_pos h]
      have h2 : r.filter (fun x => !decide (x.1 = a)) = r := by
        rw [List.filter_eq_self]
        intro y hy
        have : y.1 ≠ a := fun e => hn.1 (by rw [h, ← e]; exact List.mem_map.2 ⟨y, hy, rfl⟩)
        simp [this]
      unfold gone
      rw [h1, List.filter_cons, if_neg (by simp [h]), h2]
      rfl
    · have ih := gone_filter (a := a) hn.2
      rw [List.filter_cons, if_pos (by simp [h]), ← ih]
      have ht : tfind (x :: r) a = (tfind r a).map (· + 1) := by
        have h0 : tfind (x :: r) a = if x.1 = a then some 0 else (tfind r a).map (· + 1) := rfl
        rw [h0, if_neg h]
      unfold gone
      rw [ht]
      cases tfind r a with
      | none => rfl
      | some k => simp
/-- The table ends with these, all at one port. -/
def Ends8 (T : Tab) (l : List Int) (p : Int) : Prop := ∃ pre, T = pre ++ l.map fun x => (x, p)
theorem Ends8.nil (T : Tab) (p : Int) : Ends8 T [] p := ⟨T, by simp⟩
theorem Ends8.heard {T : Tab} {l : List Int} {a t p : Int} (hg : Good T) (h : Ends8 T l p) : Ends8 (heardT T a p) (lastL l a) p := by
  obtain ⟨pre, hT⟩ := h
  have hgl : (gone T a).length ≤ 8 := Nat.le_trans (gone_len T a) hg.len
  have hx : gone T a ++ [(a, p)] = (pre.filter fun x => !decide (x.1 = a)) ++ (nextL l a).map fun x => (x, p) := by
    rw [gone_filter hg.nd, hT, List.filter_append, List.filter_map]
    unfold nextL keepL
    rw [List.map_append, List.append_assoc]
    rfl
  have hlx : (gone T a ++ [(a, p)]).length ≤ 9 := by rw [List.length_append, List.length_singleton]; omega
  unfold heardT
  rw [hx] at hlx ⊢
  generalize (pre.filter fun x => !decide (x.1 = a)) = pre' at hlx ⊢
  rw [List.length_append, List.length_map] at hlx ⊢
  unfold lastL
  cases pre' with
  | nil =>
    simp only [List.length_nil, Nat.zero_add, List.nil_append]
    by_cases h8 : 8 < (nextL l a).length
    · rw [if_pos h8, if_pos h8]
      exact ⟨[], by rw [List.nil_append, List.map_drop]⟩
    · rw [if_neg h8, if_neg h8]
      exact ⟨[], rfl⟩
  | cons y ys =>
    simp only [List.length_cons] at hlx ⊢
    rw [if_neg (by omega : ¬ 8 < (nextL l a).length)]
    by_cases h8 : 8 < ys.length + 1 + (nextL l a).length
    · rw [if_pos h8]; exact ⟨ys, rfl⟩
    · rw [if_neg h8]; exact ⟨y :: ys, rfl⟩
theorem Ends8.look {T : Tab} {l : List Int} {p x : Int} (hg : Good T) (h : Ends8 T l p) (hx : x ∈ l) : look T x = p := by
  obtain ⟨pre, rfl⟩ := h
  exact (mem_look hg.nd (List.mem_append.2 (.inr (List.mem_map.2 ⟨x, hx, rfl⟩)))).1
theorem Ends8.down {T : Tab} {l : List Int} {p : Int} (hg : Good T) (h : Ends8 T l p) : l.length + (downT T p).length ≤ T.length := by
  obtain ⟨pre, rfl⟩ := h
  unfold downT
  rw [List.filter_append, List.length_append, List.length_append, List.length_map]
  have h1 : (l.map fun x => (x, p)).filter (fun x : Int × Int => !decide (x.2 = p)) = [] := by
    rw [List.filter_eq_nil_iff]
    intro y hy
    obtain ⟨x, _, rfl⟩ := List.mem_map.1 hy
    simp
  rw [h1, List.length_nil]
  have := List.length_filter_le (fun x : Int × Int => !decide (x.2 = p)) pre
  omega
theorem down_look {T : Tab} {x p : Int} (hg : Good T) (h : look T x = p) (hp : 0 ≤ p) : look (downT T p) x = -1 := by
  cases hf : tfind (downT T p) x with
  | none => unfold look; rw [hf]
  | some k =>
    exfalso
    obtain ⟨q, h1, _, _⟩ := tfind_some hf
    have hm : (x, q) ∈ downT T p := List.mem_iff_getElem?.2 ⟨k, h1⟩
    obtain ⟨h2, h3⟩ := List.mem_filter.1 hm
    have := (mem_look hg.nd h2).1
    simp only [Bool.not_eq_true', decide_eq_false_iff_not] at h3
    exact h3 (by rw [← this, h])
end Go.Proofs.YtommedhaaojgiaaDoor
