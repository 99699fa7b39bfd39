/- Rows of the call's own: an element is taken out in place; the first ones are cut off. -/
import Derived.Test.YtpfpaheafpibiaaDoorBase
import Derived.Laws.IdiomCopy
import Derived.Deep.Upon
import Derived.Deep.RegionLaw
namespace Go.Proofs.YtpfpaheafpibiaaDoor
open Go.RowKit
set_option linter.unusedVariables false

theorem flat_take {α : Type} (f : α → List Value) (c : Nat) (hf : ∀ x, (f x).length = c) : ∀ (xs : List α) (k : Nat), (xs.take k).flatMap f = (xs.flatMap f).take (k * c)
  | [], k => by simp
  | y :: r, 0 => by simp
  | y :: r, k + 1 => by
    have e1 : (f y).take ((k + 1) * c) = f y := List.take_of_length_le (by rw [hf, Nat.add_mul]; omega)
    have e2 : (k + 1) * c - c = k * c := by rw [Nat.add_mul]; omega
    rw [List.take_succ_cons, List.flatMap_cons, List.flatMap_cons, flat_take f c hf r k, List.take_append, e1, hf, e2]
theorem flat_drop {α : Type} (f : α → List Value) (c : Nat) (hf : ∀ x, (f x).length = c) : ∀ (xs : List α) (k : Nat), (xs.drop k).flatMap f = (xs.flatMap f).drop (k * c)
  | [], k => by simp
  | y :: r, 0 => by simp
  | y :: r, k + 1 => by
    have e1 : (f y).drop ((k + 1) * c) = [] := List.drop_of_length_le (by rw [hf, Nat.add_mul]; omega)
    have e2 : (k + 1) * c - c = k * c := by rw [Nat.add_mul]; omega
    rw [List.drop_succ_cons, List.flatMap_cons, flat_drop f c hf r k, List.drop_append, e1, hf, e2, List.nil_append]

theorem setCells_size (g : Nat) : ∀ (vs : List Value) (o : Nat) (w : World), (w.setCells g o vs).heap.size = w.heap.size
  | [], o, w => rfl
  | v :: vs, o, w => by
    show ((w.setCell ⟨g, o, none⟩ v).setCells g (o + 1) vs).heap.size = _
    rw [setCells_size g vs]
    simp [World.setCell]
theorem setCells_row (g : Nat) (e : TypeId) : ∀ (vs : List Value) (o : Nat) (w : World) (cur : Array Value), w.heap[g]? = some (.cells cur e (0, 0)) → o + vs.length ≤ cur.size →
    ∃ cur', (w.setCells g o vs).heap[g]? = some (.cells cur' e (0, 0)) ∧ cur'.size = cur.size ∧ cur'.toList = cur.toList.take o ++ vs ++ cur.toList.drop (o + vs.length)
  | [], o, w, cur, h, _ => ⟨cur, h, rfl, by simp⟩
  | v :: vs, o, w, cur, h, hl => by
    simp only [List.length_cons] at hl
    have h1 := heap_setCell_same w g o cur e v h
    obtain ⟨cur', h2, h3, h4⟩ := setCells_row g e vs (o + 1) _ _ h1 (by simp; omega)
    refine ⟨cur', h2, by simpa using h3, ?_⟩
    rw [h4]
    have hol : o < cur.toList.length := by simp; omega
    rw [Array.toList_setIfInBounds, List.take_add_one, List.take_set_of_le (Nat.le_refl _), List.getElem?_set_self hol, List.drop_set_of_lt (by omega)]
    simp only [Option.toList_some, List.append_assoc, List.length_cons, List.cons_append, List.nil_append]
    rw [show o + (vs.length + 1) = o + 1 + vs.length by omega]

theorem below_setCells_own {B g : Nat} (hg : B ≤ g) : ∀ (vs : List Value) (o : Nat) (w : World), Below B w (w.setCells g o vs)
  | [], _, w => Below.refl B w
  | v :: r, o, w => ((Below.refl B w).setCell (p := ⟨g, o, none⟩) hg v).trans (below_setCells_own hg r (o + 1) _)

section
variable {B : Nat} {w : World} {A C : List Ent} {n size : Nat} {e : TypeId} {xs : List Value} {g off cap : Nat}
theorem Sep.rowBlk (h : Sep B w (A ++ Ent.row (.slice (some ⟨g, off, none⟩) n cap) n size e xs :: C)) :
    B ≤ g ∧ g < w.heap.size ∧ ∃ cur, w.heap[g]? = some (.cells cur e (0, 0)) ∧ n ≤ cap ∧ cap ≤ maxLen ∧ cur.size = off + cap * size ∧ (cur.toList.drop off).take (n * size) = xs := by
  have hm := h.mem
  refine ⟨(hm.2 g rfl).1, (hm.2 g rfl).2, ?_⟩
  rcases hm.1.2 with ⟨h', _⟩ | ⟨g', off', cap', cur, hv, ho, hnc, hcm, hcs, ht⟩
  · simp at h'
  · simp only [Value.slice.injEq, Option.some.injEq, Addr.mk.injEq, and_true, true_and] at hv
    obtain ⟨⟨rfl, rfl⟩, rfl⟩ := hv
    exact ⟨cur, ho, hnc, hcm, hcs, ht⟩

/-- The element i is taken out: what stood behind it moves up, in place. -/
theorem Sep.rowDel (h : Sep B w (A ++ Ent.row (.slice (some ⟨g, off, none⟩) n cap) n size e xs :: C)) (i m : Nat) (hn : n = i + 1 + m) :
    Sep B (w.setCells g (off + i * size) (xs.drop ((i + 1) * size))) (A ++ Ent.row (.slice (some ⟨g, off, none⟩) (i + m) cap) (i + m) size e (xs.take (i * size) ++ xs.drop ((i + 1) * size)) :: C) := by
  subst hn
  have hxl := h.mem.1.1
  obtain ⟨hB, hlt, cur, ho, hnc, hcm, hcs, ht⟩ := h.rowBlk
  have e1 : (i + 1 + m) * size = i * size + size + m * size := by rw [Nat.add_mul, Nat.add_mul, Nat.one_mul]
  have e2 : (i + 1) * size = i * size + size := by rw [Nat.add_mul, Nat.one_mul]
  have e3 : (i + m) * size = i * size + m * size := Nat.add_mul ..
  have e4 := Nat.mul_le_mul_right size hnc
  have hdl : (xs.drop ((i + 1) * size)).length = m * size := by rw [List.length_drop, hxl]; omega
  obtain ⟨cur', ho', hs', hl'⟩ := setCells_row g e (xs.drop ((i + 1) * size)) (off + i * size) w cur ho (by rw [hdl]; omega)
  refine h.upd (by rw [setCells_size]; exact Nat.le_refl _) (fun k hk hne => World.heap_setCells_other w g _ _ hk (fun e => hne (by simp [Ent.row, Value.ownBlock, e]))) ⟨?_, .inr ⟨g, off, cap, cur', rfl, ho', by omega, hcm, by rw [hs']; exact hcs, ?_⟩⟩ ?_
  · rw [List.length_append, hdl, List.length_take, hxl]; omega
  · have hcl : cur.toList.length = cur.size := Array.length_toList
    have hA : (cur.toList.take (off + i * size)).drop off = xs.take (i * size) := by
      rw [← ht, List.take_take, Nat.min_eq_left (by omega), List.drop_take]
      congr 1; omega
    rw [hl', List.append_assoc, List.drop_append_of_le_length (by rw [List.length_take, hcl]; omega), hA, ← List.append_assoc, List.take_append_of_le_length (by rw [List.length_append, hdl, List.length_take, hxl]; omega), List.take_of_length_le (by rw [List.length_append, hdl, List.length_take, hxl]; omega)]
  · intro g' hg'
    simp [Ent.row, Value.ownBlock] at hg'
    subst hg'
    exact ⟨hB, by rw [setCells_size]; exact hlt, .inl rfl⟩

/-- 's[k:]' of a row: it owns the rest. -/
theorem Sep.rowCut (h : Sep B w (A ++ Ent.row (.slice (some ⟨g, off, none⟩) n cap) n size e xs :: C)) (k m c : Nat) (hn : n = k + m) (hc : cap = k + c) :
    Sep B w (A ++ Ent.row (.slice (some ⟨g, off + k * size, none⟩) m c) m size e (xs.drop (k * size)) :: C) := by
  subst hn hc
  have hxl := h.mem.1.1
  obtain ⟨hB, hlt, cur, ho, hnc, hcm, hcs, ht⟩ := h.rowBlk
  have e1 : (k + m) * size = k * size + m * size := Nat.add_mul ..
  have e2 : (k + c) * size = k * size + c * size := Nat.add_mul ..
  refine h.upd (Nat.le_refl _) (fun k _ _ => rfl) ⟨by rw [List.length_drop, hxl]; omega, .inr ⟨g, off + k * size, c, cur, rfl, ho, by omega, by omega, by omega, ?_⟩⟩ ?_
  · rw [← ht, List.drop_take, List.drop_drop]
    congr 1; omega
  · intro g' hg'
    simp [Ent.row, Value.ownBlock] at hg'
    subst hg'
    exact ⟨hB, hlt, .inl rfl⟩
end
section
variable {B : Nat} {w : World} {g off n cap i : Nat} {cs : List Value} {v : Value} {F : List Ent} {e : TypeId}
theorem Sep.rowCell (h : Sep B w (Ent.row (.slice (some ⟨g, off, none⟩) n cap) n 1 e cs :: F)) (hi : cs[i]? = some v) : w.cell? ⟨g, off + i, none⟩ = some v ∧ w.frozen? ⟨g, off + i, none⟩ = false := by
  have hl : cs.length = n * 1 := (Sep.mem (A := []) h).1.1
  have hin : i < cs.length := (List.getElem?_eq_some_iff.1 hi).1
  obtain ⟨g', off', he, _, hc, hf⟩ := Sep.rowAt (A := []) h (by omega)
  simp only [Option.some.injEq, Addr.mk.injEq, and_true] at he
  obtain ⟨rfl, rfl⟩ := he
  exact ⟨(hc i (by omega)).trans hi, hf _⟩
end
end Go.Proofs.YtpfpaheafpibiaaDoor
