/- nat, in plain lists: ports and the places that they are lent to, in the order in which they were lent. -/
import Derived.Test.YtbcfcjecobihnaaBase
namespace Go.Proofs.Ytbcfcjecobihnaa
set_option linter.unusedVariables false

abbrev Pl := Int × Int
abbrev NatM := List (Int × Pl)
def PlOk (p : Pl) : Prop := (0 ≤ p.1 ∧ p.1 ≤ 65535) ∧ 0 ≤ p.2 ∧ p.2 ≤ 65535
instance (p : Pl) : Decidable (PlOk p) := by unfold PlOk; infer_instance
def LmOk (low many : Int) : Prop := (0 ≤ low ∧ low ≤ 65535) ∧ (1 ≤ many ∧ many ≤ 30) ∧ low + many ≤ 65536
instance (l m : Int) : Decidable (LmOk l m) := by unfold LmOk; infer_instance
def portOf (M : NatM) (p : Pl) : Option Int := (M.find? fun x => decide (x.2 = p)).map (·.1)
def placeOf (M : NatM) (q : Int) : Option Pl := (M.find? fun x => decide (x.1 = q)).map (·.2)
def freeFrom (M : NatM) : Nat → Int → Option Int
  | 0, _ => none
  | n + 1, q => if placeOf M q = none then some q else freeFrom M n (q + 1)
def lentTo (M : NatM) (low : Int) : Nat → List Int
  | 0 => []
  | k + 1 => lentTo M low k ++ if placeOf M (low + (k : Int)) = none then [] else [low + (k : Int)]
def natOut (low many : Int) (M : NatM) (p : Pl) : NatM × Int × Int :=
  if PlOk p then
    match portOf M p with
    | some q => (M, q, 0)
    | none => match freeFrom M many.toNat low with
      | some q => (M ++ [(q, p)], q, 0)
      | none => (M, 0, 4)
  else (M, 0, 1)
def natDrop (M : NatM) (q : Int) : NatM × Int := if placeOf M q = none then (M, 5) else (M.eraseP fun x => decide (x.1 = q), 0)
structure NatOk (low many : Int) (M : NatM) : Prop where
  lm : LmOk low many
  ports : (M.map (·.1)).Nodup
  places : (M.map (·.2)).Nodup
  rng : ∀ x ∈ M, low ≤ x.1 ∧ x.1 < low + many
  pl : ∀ x ∈ M, PlOk x.2

theorem portOf_none {M : NatM} {p : Pl} : portOf M p = none ↔ ∀ x ∈ M, x.2 ≠ p := by
  unfold portOf
  rw [Option.map_eq_none_iff, List.find?_eq_none]
  simp
theorem placeOf_none {M : NatM} {q : Int} : placeOf M q = none ↔ ∀ x ∈ M, x.1 ≠ q := by
  unfold placeOf
  rw [Option.map_eq_none_iff, List.find?_eq_none]
  simp
theorem portOf_mem {M : NatM} {p : Pl} {q : Int} (h : portOf M p = some q) : (q, p) ∈ M := by
  unfold portOf at h
  obtain ⟨x, hx, rfl⟩ := Option.map_eq_some_iff.1 h
  have h1 := List.mem_of_find?_eq_some hx
  have h2 := List.find?_some hx
  simp only [decide_eq_true_eq] at h2
  rw [← h2]; exact h1
theorem placeOf_mem {M : NatM} {p : Pl} {q : Int} (h : placeOf M q = some p) : (q, p) ∈ M := by
  unfold placeOf at h
  obtain ⟨x, hx, rfl⟩ := Option.map_eq_some_iff.1 h
  have h1 := List.mem_of_find?_eq_some hx
  have h2 := List.find?_some hx
  simp only [decide_eq_true_eq] at h2
  rw [← h2]; exact h1
/-- Of a list in which a reading tells two apart: one place. -/
theorem nodup_place {α β : Type} {f : α → β} : ∀ {l : List α}, (l.map f).Nodup → ∀ {i j : Nat} {x y : α}, l[i]? = some x → l[j]? = some y → f x = f y → i = j
  | [], _, i, j, x, y, hx, _, _ => by simp at hx
  | z :: r, hn, i, j, x, y, hx, hy, he => by
    rw [List.map_cons, List.nodup_cons] at hn
    match i, j, hx, hy with
    | 0, 0, _, _ => rfl
    | 0, j + 1, hx, hy =>
      simp only [List.getElem?_cons_zero, Option.some.injEq, List.getElem?_cons_succ] at hx hy
      exact absurd (List.mem_map.2 ⟨y, List.mem_iff_getElem?.2 ⟨j, hy⟩, by rw [hx, he]⟩) hn.1
    | i + 1, 0, hx, hy =>
      simp only [List.getElem?_cons_zero, Option.some.injEq, List.getElem?_cons_succ] at hx hy
      exact absurd (List.mem_map.2 ⟨x, List.mem_iff_getElem?.2 ⟨i, hx⟩, by rw [hy, he]⟩) hn.1
    | i + 1, j + 1, hx, hy =>
      simp only [List.getElem?_cons_succ] at hx hy
      rw [nodup_place hn.2 hx hy he]
theorem nodup_same {α β : Type} {f : α → β} {l : List α} (hn : (l.map f).Nodup) {x y : α} (hx : x ∈ l) (hy : y ∈ l) (he : f x = f y) : x = y := by
  obtain ⟨i, hi⟩ := List.mem_iff_getElem?.1 hx
  obtain ⟨j, hj⟩ := List.mem_iff_getElem?.1 hy
  have := nodup_place hn hi hj he
  subst this
  rw [hi] at hj
  exact Option.some.inj hj
section
variable {low many : Int} {M : NatM}
theorem NatOk.nil (h : LmOk low many) : NatOk low many [] := ⟨h, by simp, by simp, by simp, by simp⟩
theorem NatOk.place_is (h : NatOk low many M) {q : Int} {p : Pl} : placeOf M q = some p ↔ (q, p) ∈ M := by
  refine ⟨placeOf_mem, fun hm => ?_⟩
  cases hp : placeOf M q with
  | none => exact absurd rfl (placeOf_none.1 hp _ hm)
  | some p' =>
    have := nodup_same h.ports hm (placeOf_mem hp) rfl
    exact congrArg some (congrArg Prod.snd this).symm
theorem NatOk.port_is (h : NatOk low many M) {q : Int} {p : Pl} : portOf M p = some q ↔ (q, p) ∈ M := by
  refine ⟨portOf_mem, fun hm => ?_⟩
  cases hp : portOf M p with
  | none => exact absurd rfl (portOf_none.1 hp _ hm)
  | some q' =>
    have := nodup_same h.places hm (portOf_mem hp) rfl
    exact congrArg some (congrArg Prod.fst this).symm
theorem NatOk.push (h : NatOk low many M) {q : Int} {p : Pl} (hq : placeOf M q = none) (hp : portOf M p = none) (hr : low ≤ q ∧ q < low + many) (ho : PlOk p) : NatOk low many (M ++ [(q, p)]) := by
  refine ⟨h.lm, ?_, ?_, ?_, ?_⟩
  · rw [List.map_append]
    refine List.nodup_append.2 ⟨h.ports, by simp, fun a ha c hc e1 => ?_⟩
    obtain ⟨x, hx, rfl⟩ := List.mem_map.1 ha
    simp at hc
    exact placeOf_none.1 hq x hx (e1.trans hc)
  · rw [List.map_append]
    refine List.nodup_append.2 ⟨h.places, by simp, fun a ha c hc e1 => ?_⟩
    obtain ⟨x, hx, rfl⟩ := List.mem_map.1 ha
    simp at hc
    exact portOf_none.1 hp x hx (e1.trans hc)
  · intro x hx
    rcases List.mem_append.1 hx with hx | hx
    · exact h.rng x hx
    · simp at hx; rw [hx]; exact hr
  · intro x hx
    rcases List.mem_append.1 hx with hx | hx
    · exact h.pl x hx
    · simp at hx; rw [hx]; exact ho
theorem NatOk.sub (h : NatOk low many M) {M' : NatM} (hs : M'.Sublist M) : NatOk low many M' :=
  ⟨h.lm, (hs.map _).nodup h.ports, (hs.map _).nodup h.places, fun x hx => h.rng x (hs.mem hx), fun x hx => h.pl x (hs.mem hx)⟩
/-- A port that is lent stands at one place; without that place it is dropped. -/
theorem NatOk.erase (h : NatOk low many M) {q : Int} {p : Pl} (hq : placeOf M q = some p) : ∃ j, M[j]? = some (q, p) ∧ M.eraseP (fun x => decide (x.1 = q)) = M.eraseIdx j := by
  obtain ⟨j, hj⟩ := List.mem_iff_getElem?.1 (placeOf_mem hq)
  refine ⟨j, hj, ?_⟩
  have main : ∀ (M : NatM) (j : Nat), (M.map (·.1)).Nodup → M[j]? = some (q, p) → M.eraseP (fun x => decide (x.1 = q)) = M.eraseIdx j := by
    intro M
    induction M with
    | nil => intro j _ hj; cases hj
    | cons y r ih =>
      intro j hn hj
      cases j with
      | zero =>
        simp only [List.getElem?_cons_zero, Option.some.injEq] at hj
        subst hj
        simp
      | succ j =>
        simp only [List.getElem?_cons_succ] at hj
        rw [List.map_cons, List.nodup_cons] at hn
        have hy : y.1 ≠ q := fun e => hn.1 (by rw [e]; exact List.mem_map.2 ⟨(q, p), List.mem_iff_getElem?.2 ⟨j, hj⟩, rfl⟩)
        rw [List.eraseP_cons_of_neg (by simp [hy]), ih j hn.2 hj]
        rfl
  exact main M j h.ports hj
theorem freeFrom_some {q : Int} : ∀ {n : Nat} {s : Int}, freeFrom M n s = some q → placeOf M q = none ∧ s ≤ q ∧ q < s + (n : Int)
  | 0, s, h => by cases h
  | n + 1, s, h => by
    unfold freeFrom at h
    split at h
    · rename_i h1
      cases h
      exact ⟨h1, by omega, by omega⟩
    · obtain ⟨a, b, c⟩ := freeFrom_some h
      exact ⟨a, by omega, by omega⟩
theorem NatOk.out (h : NatOk low many M) (p : Pl) : NatOk low many (natOut low many M p).1 := by
  unfold natOut
  split
  · rename_i hp
    split
    · exact h
    · rename_i hn
      split
      · rename_i q hq
        obtain ⟨a, b, c⟩ := freeFrom_some hq
        have := h.lm.2.1.1
        exact h.push a hn ⟨b, by omega⟩ hp
      · exact h
  · exact h
theorem NatOk.drop (h : NatOk low many M) (q : Int) : NatOk low many (natDrop M q).1 := by
  unfold natDrop
  split
  · exact h
  · exact h.sub (List.eraseP_sublist)
theorem lentTo_len (M : NatM) (low : Int) : ∀ k, (lentTo M low k).length ≤ k
  | 0 => by simp [lentTo]
  | k + 1 => by
    have := lentTo_len M low k
    unfold lentTo
    rw [List.length_append]
    split <;> simp <;> omega
end
end Go.Proofs.Ytbcfcjecobihnaa
