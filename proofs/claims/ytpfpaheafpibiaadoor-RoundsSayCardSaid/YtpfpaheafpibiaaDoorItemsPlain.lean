/- Plain: things in the order of their rounds, then of their queues; merging in place (symMerge) of sorted rows. -/
import Derived.Test.YtpfpaheafpibiaaDoorTurns
namespace Go.Proofs.YtpfpaheafpibiaaDoor
set_option linter.unusedVariables false

/-- Queue, place, round, size. -/
abbrev Itm := Nat × Nat × Nat × Nat
def ltI (x y : Itm) : Prop := x.2.2.1 < y.2.2.1 ∨ (x.2.2.1 = y.2.2.1 ∧ x.1 < y.1)
instance (x y : Itm) : Decidable (ltI x y) := by unfold ltI; infer_instance
def leI (x y : Itm) : Prop := ¬ ltI y x
instance (x y : Itm) : Decidable (leI x y) := by unfold leI; infer_instance
theorem leI_refl (x : Itm) : leI x x := by unfold leI ltI; omega
theorem leI_trans {x y z : Itm} (h : leI x y) (g : leI y z) : leI x z := by unfold leI ltI at *; omega
theorem leI_total (x y : Itm) : leI x y ∨ leI y x := by unfold leI ltI; omega
theorem ltI_le {x y : Itm} (h : ltI x y) : leI x y := by unfold leI; unfold ltI at *; omega
def Srt (l : List Itm) : Prop := l.Pairwise leI
theorem Srt.app {a b : List Itm} : Srt (a ++ b) ↔ Srt a ∧ Srt b ∧ ∀ x ∈ a, ∀ y ∈ b, leI x y := List.pairwise_append
theorem Srt.cons {x : Itm} {b : List Itm} : Srt (x :: b) ↔ (∀ y ∈ b, leI x y) ∧ Srt b := List.pairwise_cons
/-- One is put in its place. -/
theorem ins_done {S1 S2 : List Itm} {z : Itm} (h : Srt (S1 ++ S2)) (h2 : ∀ y ∈ S2, ltI z y) (h1 : ∀ y ∈ S1, leI y z) : Srt (S1 ++ z :: S2) := by
  obtain ⟨g1, g2, g3⟩ := Srt.app.1 h
  refine Srt.app.2 ⟨g1, Srt.cons.2 ⟨fun y hy => ltI_le (h2 y hy), g2⟩, fun x hx y hy => ?_⟩
  rcases List.mem_cons.1 hy with rfl | hy
  · exact h1 x hx
  · exact g3 x hx y hy
theorem Srt.last {S : List Itm} {y z : Itm} (h : Srt (S ++ [y])) (hy : leI y z) : ∀ x ∈ S ++ [y], leI x z := fun x hx => by
  obtain ⟨g1, g2, g3⟩ := Srt.app.1 h
  rcases List.mem_append.1 hx with hx | hx
  · exact leI_trans (g3 x hx y (List.mem_singleton.2 rfl)) hy
  · rw [List.mem_singleton.1 hx]; exact hy
theorem Srt.get {A : List Itm} (h : Srt A) {i j : Nat} {x y : Itm} (hi : A[i]? = some x) (hj : A[j]? = some y) (hij : i ≤ j) : leI x y := by
  obtain ⟨h1, rfl⟩ := List.getElem?_eq_some_iff.1 hi
  obtain ⟨h2, rfl⟩ := List.getElem?_eq_some_iff.1 hj
  rcases Nat.lt_or_eq_of_le hij with h3 | rfl
  · exact List.pairwise_iff_getElem.1 h i j h1 h2 h3
  · exact leI_refl _
theorem mem_take_at {A : List Itm} {s : Nat} {x : Itm} (h : x ∈ A.take s) : ∃ i, i < s ∧ A[i]? = some x := by
  obtain ⟨i, hi⟩ := List.mem_iff_getElem?.1 h
  rw [List.getElem?_take] at hi
  split at hi
  · next hs => exact ⟨i, hs, hi⟩
  · cases hi
theorem mem_drop_at {A : List Itm} {s : Nat} {x : Itm} (h : x ∈ A.drop s) : ∃ i, s ≤ i ∧ A[i]? = some x := by
  obtain ⟨i, hi⟩ := List.mem_iff_getElem?.1 h
  rw [List.getElem?_drop] at hi
  exact ⟨s + i, by omega, hi⟩
/-- The first of one row are before the last of the other. -/
theorem sym_split {A B : List Itm} (hA : Srt A) (hB : Srt B) {s e : Nat} (h : s = 0 ∨ B.length ≤ e ∨ ∃ x y, A[s - 1]? = some x ∧ B[e]? = some y ∧ leI x y) : ∀ x ∈ A.take s, ∀ y ∈ B.drop e, leI x y := fun x hx y hy => by
  obtain ⟨i, hi, hx⟩ := mem_take_at hx
  obtain ⟨j, hj, hy⟩ := mem_drop_at hy
  have hjl := (List.getElem?_eq_some_iff.1 hy).1
  rcases h with h | h | ⟨u, v, hu, hv, h⟩
  · omega
  · omega
  · exact leI_trans (hA.get hx hu (by omega)) (leI_trans h (hB.get hv hy hj))
theorem sym_join {A B C1 C2 : List Itm} {s e : Nat} (hA : Srt A) (hB : Srt B) (h1 : s = 0 ∨ B.length ≤ e ∨ ∃ x y, A[s - 1]? = some x ∧ B[e]? = some y ∧ leI x y)
    (h2 : e = 0 ∨ A.length ≤ s ∨ ∃ x y, B[e - 1]? = some x ∧ A[s]? = some y ∧ leI x y) (p1 : C1.Perm (A.take s ++ B.take e)) (p2 : C2.Perm (A.drop s ++ B.drop e)) (g1 : Srt C1) (g2 : Srt C2) :
    Srt (C1 ++ C2) ∧ (C1 ++ C2).Perm (A ++ B) := by
  refine ⟨Srt.app.2 ⟨g1, g2, fun x hx y hy => ?_⟩, ?_⟩
  · have hx := p1.mem_iff.1 hx
    have hy := p2.mem_iff.1 hy
    rcases List.mem_append.1 hx with hx | hx
    · rcases List.mem_append.1 hy with hy | hy
      · obtain ⟨i, hi, hx⟩ := mem_take_at hx
        obtain ⟨j, hj, hy⟩ := mem_drop_at hy
        exact hA.get hx hy (by omega)
      · exact sym_split hA hB h1 x hx y hy
    · rcases List.mem_append.1 hy with hy | hy
      · exact sym_split hB hA h2 x hx y hy
      · obtain ⟨i, hi, hx⟩ := mem_take_at hx
        obtain ⟨j, hj, hy⟩ := mem_drop_at hy
        exact hB.get hx hy (by omega)
  · have h3 := (p1.append p2)
    refine h3.trans ?_
    have e1 : A.take s ++ B.take e ++ (A.drop s ++ B.drop e) = A.take s ++ (B.take e ++ A.drop s) ++ B.drop e := by simp
    have e2 : A ++ B = A.take s ++ (A.drop s ++ B.take e) ++ B.drop e := by
      rw [← List.append_assoc, List.take_append_drop, List.append_assoc, List.take_append_drop]
    rw [e1, e2]
    exact ((List.perm_append_comm).append_left _).append_right _
/-- Two sorted rows of the same things are the same, where no two are alike. -/
theorem srt_uniq : ∀ {a b : List Itm}, Srt a → Srt b → a.Perm b → (∀ x ∈ a, ∀ y ∈ a, leI x y → leI y x → x = y) → a = b
  | [], b, _, _, hp, _ => (List.nil_perm.1 hp).symm
  | x :: a, [], _, _, hp, _ => absurd hp.length_eq (by simp)
  | x :: a, y :: b, ha, hb, hp, hu => by
    have hxy : x = y := by
      have hy : y ∈ x :: a := hp.mem_iff.2 (List.mem_cons_self ..)
      have hx : x ∈ y :: b := hp.mem_iff.1 (List.mem_cons_self ..)
      refine hu x (List.mem_cons_self ..) y hy ?_ ?_
      · rcases List.mem_cons.1 hy with rfl | hy
        · exact leI_refl _
        · exact (Srt.cons.1 ha).1 y hy
      · rcases List.mem_cons.1 hx with rfl | hx
        · exact leI_refl _
        · exact (Srt.cons.1 hb).1 x hx
    subst hxy
    rw [srt_uniq (Srt.cons.1 ha).2 (Srt.cons.1 hb).2 (List.perm_cons x |>.1 hp) fun u hu1 v hv1 => hu u (List.mem_cons_of_mem _ hu1) v (List.mem_cons_of_mem _ hv1)]
/-- Two are exchanged. -/
theorem set_swap {α : Type} (A B C : List α) (x y : α) : ((A ++ x :: B ++ y :: C).set A.length y).set (A.length + 1 + B.length) x = A ++ y :: B ++ x :: C := by
  rw [List.append_assoc, List.set_append_right _ _ (Nat.le_refl _), Nat.sub_self, List.cons_append, List.set_cons_zero, List.set_append_right _ _ (by omega)]
  rw [show A.length + 1 + B.length - A.length = B.length + 1 by omega, List.set_cons_succ, List.set_append_right _ _ (Nat.le_refl _), Nat.sub_self, List.set_cons_zero]
  simp
theorem at_app {α : Type} (A : List α) (x : α) (C : List α) : (A ++ x :: C)[A.length]? = some x := by
  rw [List.getElem?_append_right (Nat.le_refl _), Nat.sub_self]; rfl
end Go.Proofs.YtpfpaheafpibiaaDoor
