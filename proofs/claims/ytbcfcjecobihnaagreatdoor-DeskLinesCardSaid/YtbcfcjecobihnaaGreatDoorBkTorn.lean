/- Plain, for BookTorn. -/
import Derived.Test.YtbcfcjecobihnaaGreatDoorPk10
namespace Go.Proofs.YtbcfcjecobihnaaGreatDoor
set_option linter.unusedVariables false

theorem bkSet_many {b : Bk} {a n x : Int} (h : (bkSet b a n x).2 = 0) : (bkSet b a n x).1.2.2 = b.2.2 + 1 := by
  unfold bkSet at h ⊢
  split at h
  · simp at h
  · split at h
    · rw [if_neg ‹_›, if_pos ‹_›]
    · rename_i h1 h2; exact absurd h h2
theorem bkDrop_many {b : Bk} {a n : Int} (h : (bkDrop b a n).2 = 0) : (bkDrop b a n).1.2.2 = b.2.2 + 1 := by
  unfold bkDrop at h ⊢
  split at h
  · simp at h
  · split at h
    · rw [if_neg ‹_›, if_pos ‹_›]
    · rename_i h1 h2; exact absurd h h2
theorem hist_take (l : List (List Int)) : ∀ {b : Bk} {ops : List BOp}, Made b ops → ∃ O, ops <+: O ∧ Made (l.foldl stpDo b) O ∧ ∀ s, ∃ m, Made ((l.take s).foldl stpDo b) (O.take m) := by
  induction l with
  | nil => exact fun {b ops} h => ⟨ops, List.prefix_refl _, h, fun s => ⟨ops.length, by simpa using h⟩⟩
  | cons x r ih =>
    intro b ops h
    obtain ⟨o1, h1⟩ := stpDo_made h x
    obtain ⟨O, p1, p2, p3⟩ := ih h1
    refine ⟨O, (List.prefix_append ops o1).trans p1, p2, fun s => ?_⟩
    cases s with
    | zero =>
      refine ⟨ops.length, ?_⟩
      rw [← List.prefix_iff_eq_take.1 ((List.prefix_append ops o1).trans p1)]
      exact h
    | succ s =>
      obtain ⟨m, hm⟩ := p3 s
      exact ⟨m, hm⟩
theorem hist_of (l : List (List Int)) : ∃ O, Made (foldB l) O ∧ ∀ s, ∃ m, Made (foldB (l.take s)) (O.take m) := by
  obtain ⟨O, -, h1, h2⟩ := hist_take l Made.start
  exact ⟨O, h1, h2⟩
theorem hist_same {l : List (List Int)} {O : List BOp} (h : ∀ s, ∃ m, Made (foldB (l.take s)) (O.take m)) {s k : Nat} {o : Bk} (hk : (foldB (l.take s)).2.2 = k) (ho : Made o (O.take k)) : foldB (l.take s) = o := by
  obtain ⟨m, hm⟩ := h s
  have h1 := hm.text.2
  rw [hk, List.length_take] at h1
  have h2 : O.take m = O.take k := by
    rw [h1]
    rcases Nat.le_total m O.length with h | h
    · rw [Nat.min_eq_left h]
    · rw [Nat.min_eq_right h, List.take_of_length_le h, List.take_of_length_le (Nat.le_refl _)]
  rw [h2] at hm
  have := hm.2.symm.trans ho.2
  exact Option.some.inj this
theorem made_of_take {b : Bk} {O : List BOp} (h : Made b O) (k : Nat) : ∃ o, Made o (O.take k) := by
  obtain ⟨o, ho⟩ := runOps_take h.2 k
  exact ⟨o, fun op hm => h.1 op (List.mem_of_mem_take hm), ho⟩
theorem count_next {l : List UInt8} {k : Nat} {c : UInt8} (h : l[k]? = some c) : (l.take (k + 1)).count 10 = (l.take k).count 10 + if c = 10 then 1 else 0 := by
  rw [List.take_add_one, h, List.count_append]
  simp [List.count_cons]
theorem bytes_at {l : List UInt8} {k : Nat} {c : UInt8} (h : l[k]? = some c) : (⟨l.toArray⟩ : ByteArray)[k]? = some c := by
  obtain ⟨h1, h2⟩ := List.getElem?_eq_some_iff.1 h
  rw [getElem?_pos (⟨l.toArray⟩ : ByteArray) k (show k < l.length from h1)]
  exact congrArg some h2
theorem byte_at {t : ByteArray} {k : Nat} {c : UInt8} (h : t[k]? = some c) (hk : k < t.size) : t[k]'hk = c := by
  rw [getElem?_pos t k hk] at h
  exact Option.some.inj h
/-- All of a torn text. -/
theorem torn_all (l : List (List Int)) {b : Bk} {O : List BOp} (hb : b = foldB l) (h : Made b O) (hok : BkOk b) (n : Nat) :
    ∃ (k : Nat) (o : Bk), (b.2.1.take n).count 10 = k ∧ k ≤ b.2.2 ∧ Made o (O.take k) ∧ openB (b.2.1.take n) = (some o, k, 0) ∧ o.2.1.length ≤ n ∧ o.2.2 = k := by
  obtain ⟨k, tl, h1, h2, h3, h4⟩ := torn O n
  obtain ⟨o, ho⟩ := made_of_take h k
  have e1 := h.text.1
  have e2 := h.text.2
  have e3 := ho.text
  rw [List.length_take, Nat.min_eq_left h1] at e3
  have hlen := text_short h.1
  have hl2 : (textOf (O.take k) ++ tl).length ≤ 2000 := by
    rw [← h2]
    have := hok.2
    rw [List.length_take]; omega
  refine ⟨k, o, by rw [e1]; exact h4, by omega, ho, ?_, ?_, e3.2⟩
  · rw [e1, h2]
    have := open_made ho (by rw [e3.2]; have := hok.2; omega) h3 hl2
    rw [e3.2] at this
    exact this
  · rw [e3.1]
    have : (textOf (O.take k) ++ tl).length ≤ n := by rw [← h2, List.length_take]; omega
    rw [List.length_append] at this; omega
end Go.Proofs.YtbcfcjecobihnaaGreatDoor
