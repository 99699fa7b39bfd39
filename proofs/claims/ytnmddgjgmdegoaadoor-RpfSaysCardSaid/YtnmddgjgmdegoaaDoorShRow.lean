/- A row of ints of the call's own, sorted and compacted by the library: from the shelf's words to ours. -/
import Derived.Test.YtnmddgjgmdegoaaDoorShSort
import Derived.Test.YtnmddgjgmdegoaaDoorRow2
namespace Go.Proofs.YtnmddgjgmdegoaaDoor
open Go.RowKit Go.Sort Go.Shelf Go.Lib
set_option linter.unusedVariables false

theorem holds_ints {B : Nat} {w : World} {A C : List Ent} {g off cap : Nat} {e : TypeId} {xs : List Int} (h : Sep B w (A ++ Ent.ints e (.slice (some ⟨g, off, none⟩) xs.length cap) xs :: C)) : Holds (Value.int .i64) w g off xs.toArray := by
  intro j hj
  have hj' : j < xs.length := by simpa using hj
  obtain ⟨g', off', he, _, hc, hf⟩ := Sep.rowAt h (by omega)
  simp only [Option.some.injEq, Addr.mk.injEq, and_true] at he
  obtain ⟨rfl, rfl⟩ := he
  refine ⟨?_, hf _⟩
  rw [hc j (by omega), List.getElem?_map, List.getElem?_eq_getElem hj']
  simp [hj']
theorem intsPut {B : Nat} {w : World} {A C : List Ent} {g off cap : Nat} {e : TypeId} {xs ts : List Int} (h : Sep B w (A ++ Ent.ints e (.slice (some ⟨g, off, none⟩) xs.length cap) xs :: C)) (hl : ts.length = xs.length) (n : Nat) (os : Array Obj) :
    Sep B (grow (putRow (Value.int .i64) (Sort.ahead w n) g off ts.toArray) os) (A ++ Ent.ints e (.slice (some ⟨g, off, none⟩) xs.length cap) ts :: C) ∧ Below B w (grow (putRow (Value.int .i64) (Sort.ahead w n) g off ts.toArray) os) := by
  obtain ⟨hB, hlt, cur, ho, hnc, hcm, hcs, ht⟩ := Sep.rowBlk h
  have hnew : (grow (putRow (Value.int .i64) (Sort.ahead w n) g off ts.toArray) os).heap[g]? = some (.cells (putCells (Value.int .i64) off ts.toArray cur) e (0, 0)) := by
    rw [heap_grow_old _ _ (by simpa [Sort.ahead] using hlt)]
    simp [putRow, mapBlock, Sort.ahead, Array.getElem?_modify, ho, onCells]
  have hold : ∀ k, k < w.heap.size → k ≠ g → (grow (putRow (Value.int .i64) (Sort.ahead w n) g off ts.toArray) os).heap[k]? = w.heap[k]? := by
    intro k hk hne
    rw [heap_grow_old _ _ (by simpa [Sort.ahead] using hk)]
    simp [putRow, mapBlock, Sort.ahead, Array.getElem?_modify, Ne.symm hne]
  have hsz : w.heap.size ≤ (grow (putRow (Value.int .i64) (Sort.ahead w n) g off ts.toArray) os).heap.size := by simp [Sort.ahead]
  refine ⟨?_, ?_⟩
  · refine h.upd hsz (fun k hk hne => hold k hk (fun e => hne (by simp [Ent.ints, Ent.row, Value.ownBlock, e]))) ?_ ?_
    · unfold Ent.ints
      rw [hl]
      refine ⟨by simp [hl], .inr ⟨g, off, cap, _, rfl, hnew, hnc, hcm, by simpa [putCells] using hcs, ?_⟩⟩
      apply List.ext_getElem?
      intro j
      rw [List.getElem?_take, List.getElem?_drop, Array.getElem?_toList]
      by_cases hj : j < xs.length
      · rw [if_pos (by omega)]
        have hjt : j < ts.length := by omega
        simp [putCells, hjt, show off + j < cur.size by omega]
      · rw [if_neg (by omega), List.getElem?_eq_none (by simp; omega)]
    · intro g' hg'
      simp [Ent.ints, Ent.row, Value.ownBlock] at hg'
      subst hg'
      exact ⟨hB, by have := hsz; omega, .inl rfl⟩
  · exact ⟨rfl, rfl, rfl, hsz, fun k hk => hold k (by omega) (by omega)⟩
/-- 's[:n]' of a row: it owns the first of it. -/
theorem Sep.rowFirst {B : Nat} {w : World} {A C : List Ent} {n size cap k : Nat} {e : TypeId} {xs : List Value} {g off : Nat} (h : Sep B w (A ++ Ent.row (.slice (some ⟨g, off, none⟩) n cap) n size e xs :: C)) (hk : k ≤ n) :
    Sep B w (A ++ Ent.row (.slice (some ⟨g, off, none⟩) k cap) k size e (xs.take (k * size)) :: C) := by
  have hm := h.mem
  have hle := Nat.mul_le_mul_right size hk
  obtain ⟨hB, hlt, cur, ho, hnc, hcm, hcs, ht⟩ := Sep.rowBlk h
  refine h.upd (Nat.le_refl _) (fun k _ _ => rfl) ⟨by rw [List.length_take, hm.1.1]; omega, .inr ⟨g, off, cap, cur, rfl, ho, by omega, hcm, hcs, ?_⟩⟩ ?_
  · rw [← ht, List.take_take, Nat.min_eq_left hle]
  · intro g' hg'
    simp [Ent.row, Value.ownBlock] at hg'
    subst hg'
    exact ⟨hB, hlt, .inl rfl⟩

/-! ### plain -/
theorem rising_eq : ∀ (a b : List Int), a.Pairwise (· < ·) → b.Pairwise (· < ·) → (∀ x, x ∈ a ↔ x ∈ b) → a = b
  | [], [], _, _, _ => rfl
  | [], y :: b, _, _, h => absurd ((h y).2 (List.mem_cons_self ..)) (by simp)
  | x :: a, [], _, _, h => absurd ((h x).1 (List.mem_cons_self ..)) (by simp)
  | x :: a, y :: b, ha, hb, h => by
    rw [List.pairwise_cons] at ha hb
    have hxy : x = y := by
      rcases List.mem_cons.1 ((h x).1 (List.mem_cons_self ..)) with e | hx
      · exact e
      · rcases List.mem_cons.1 ((h y).2 (List.mem_cons_self ..)) with e | hy
        · exact e.symm
        · have h1 := hb.1 x hx; have h2 := ha.1 y hy; omega
    subst hxy
    rw [rising_eq a b ha.2 hb.2 fun z => by
      have hz := h z
      rw [List.mem_cons, List.mem_cons] at hz
      constructor
      · intro hm
        rcases hz.1 (.inr hm) with e | hm2
        · subst e; exact absurd (ha.1 z hm) (by omega)
        · exact hm2
      · intro hm
        rcases hz.2 (.inr hm) with e | hm2
        · subst e; exact absurd (hb.1 z hm) (by omega)
        · exact hm2]
theorem compact_less (zs : List Int) : (compact zs).length ≤ zs.length := by
  unfold compact compactUpTo
  rw [List.length_map]
  exact Nat.le_trans (List.length_filter_le _ _) (by simp)
theorem compact_rising {zs : List Int} (hz : zs.Pairwise (· ≤ ·)) : (compact zs).Pairwise (· < ·) ∧ ∀ x, x ∈ compact zs ↔ x ∈ zs := by
  have get : ∀ j (hj : j < zs.length), zs.toArray[j]! = zs[j] := fun j hj => by simp [hj]
  have key : ∀ m, m ≤ zs.length → (compactUpTo zs.toArray m).Pairwise (· < ·) ∧ (∀ x, x ∈ compactUpTo zs.toArray m ↔ x ∈ zs.take m) := by
    intro m
    induction m with
    | zero => intro _; simp [compactUpTo]
    | succ m ih =>
      intro hm
      obtain ⟨h1, h2⟩ := ih (by omega)
      have hml : m < zs.length := by omega
      have htake : zs.take (m + 1) = zs.take m ++ [zs[m]] := by rw [List.take_add_one, List.getElem?_eq_getElem hml]; rfl
      have hle : ∀ x ∈ zs.take m, x ≤ zs[m] := by
        intro x hx
        obtain ⟨j, hj⟩ := List.mem_iff_getElem?.1 hx
        rw [List.getElem?_take] at hj
        by_cases hjm : j < m
        · rw [if_pos hjm, List.getElem?_eq_getElem (by omega)] at hj
          cases hj
          exact List.pairwise_iff_getElem.1 hz j m (by omega) hml hjm
        · rw [if_neg hjm] at hj; cases hj
      rw [compactUpTo_succ, htake]
      by_cases hk : keeps zs.toArray m = true
      · rw [if_pos hk, get m hml]
        refine ⟨?_, fun x => by rw [List.mem_append, List.mem_append, h2]⟩
        rw [List.pairwise_append]
        refine ⟨h1, by simp, fun a ha b hb => ?_⟩
        rw [List.mem_singleton] at hb
        subst hb
        have ha2 := (h2 a).1 ha
        have h3 := hle a ha2
        by_cases hm0 : m = 0
        · subst hm0; simp at ha2
        · have hprev : zs[m - 1] ≠ zs[m] := by
            intro e
            have hneg := keeps_neg (d := zs.toArray) (m := m) (by omega) (by rw [get m hml, get (m - 1) (by omega)]; exact e.symm)
            rw [hneg] at hk; cases hk
          have h4 : zs[m - 1] ≤ zs[m] := List.pairwise_iff_getElem.1 hz (m - 1) m (by omega) hml (by omega)
          have h5 : a ≤ zs[m - 1] := by
            obtain ⟨j, hj⟩ := List.mem_iff_getElem?.1 ha2
            rw [List.getElem?_take] at hj
            by_cases hjm : j < m
            · rw [if_pos hjm, List.getElem?_eq_getElem (by omega)] at hj
              have hja := Option.some.inj hj
              rw [← hja]
              by_cases hj1 : j = m - 1
              · subst hj1; exact Int.le_refl _
              · exact List.pairwise_iff_getElem.1 hz j (m - 1) (by omega) (by omega) (by omega)
            · rw [if_neg hjm] at hj; cases hj
          omega
      · rw [if_neg hk, List.append_nil]
        refine ⟨h1, fun x => ?_⟩
        rw [h2, List.mem_append, List.mem_singleton]
        constructor
        · exact .inl
        · rintro (h | h)
          · exact h
          · have hm0 : m ≠ 0 := by
              rintro rfl
              exact hk (keeps_lt_one zs.toArray 0 (by omega))
            have hprev : zs[m - 1] = zs[m] := by
              apply Classical.byContradiction
              intro e
              exact hk (keeps_pos (by rw [get m hml, get (m - 1) (by omega)]; exact fun e2 => e e2.symm))
            subst h
            rw [← hprev]
            exact List.mem_iff_getElem?.2 ⟨m - 1, by rw [List.getElem?_take, if_pos (by omega), List.getElem?_eq_getElem (by omega)]⟩
  have := key zs.length (Nat.le_refl _)
  rw [List.take_length] at this
  exact this
theorem msort_rising (zs : List Int) : (zs.mergeSort fun x y => decide (x ≤ y)).Pairwise (· ≤ ·) := by
  have h := List.pairwise_mergeSort (le := fun x y : Int => decide (x ≤ y)) (fun a b c h1 h2 => by simp at h1 h2 ⊢; omega) (fun a b => by simp; omega) zs
  exact h.imp fun h => by simpa using h
/-- Sorted and compacted: the one rising list of the same numbers. -/
theorem sorted_once {zs ys : List Int} (hy : ys.Pairwise (· < ·)) (hm : ∀ x, x ∈ ys ↔ x ∈ zs) : compact (zs.mergeSort fun x y => decide (x ≤ y)) = ys := by
  obtain ⟨h1, h2⟩ := compact_rising (msort_rising zs)
  refine rising_eq _ _ h1 hy fun x => ?_
  rw [h2, hm, List.mem_mergeSort]
end Go.Proofs.YtnmddgjgmdegoaaDoor
