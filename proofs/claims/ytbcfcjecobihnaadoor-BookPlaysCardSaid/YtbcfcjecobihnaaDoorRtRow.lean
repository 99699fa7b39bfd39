/- Rows of routes: read, cut, appended. -/
import Derived.Test.YtbcfcjecobihnaaDoorLpmWalk
import Derived.Test.YtbcfcjecobihnaaDoorLpmCmp
namespace Go.Proofs.YtbcfcjecobihnaaDoor
open Go.RowKit
set_option linter.unusedVariables false
set_option maxRecDepth 100000

abbrev RteSl (B : Nat) (w : World) (ao : Option Addr) (L : List Rte) : Prop := RowSl B w ao 3 (L.map rteL)
theorem rte_len (L : List Rte) : (L.flatMap rteL).length = L.length * 3 := flat_len rteL 3 (fun _ => rfl) L
theorem rte_one {L : List Rte} : ∀ u ∈ L.flatMap rteL, u.oneCell' = true := by
  intro u hu
  obtain ⟨x, _, hx⟩ := List.mem_flatMap.1 hu
  simp only [rteL, List.mem_cons, List.not_mem_nil, or_false] at hx
  rcases hx with rfl | rfl | rfl <;> rfl
theorem rteSl_flat {B : Nat} {w : World} {b off : Nat} {L : List Rte} (h : RteSl B w (some ⟨b, off, none⟩) L) : ∀ (j : Nat) (u : Value), (L.flatMap rteL)[j]? = some u → w.cell? ((⟨b, off, none⟩ : Addr).add j) = some u := by
  intro j u hu
  have hlen := rte_len L
  have hj := (List.getElem?_eq_some_iff.1 hu).1
  obtain ⟨x, hx⟩ : ∃ x, L[j / 3]? = some x := ⟨_, List.getElem?_eq_getElem (by omega)⟩
  have h3 : j % 3 < 3 := Nat.mod_lt _ (by decide)
  have hf := flat_get rteL 3 (fun _ => rfl) h3 L (j / 3) x hx
  rw [show j / 3 * 3 + j % 3 = j by omega, hu] at hf
  obtain ⟨b', off', he, _, hc⟩ := h (j / 3) (rteL x) (by rw [List.getElem?_map, hx]; rfl)
  simp only [Option.some.injEq, Addr.mk.injEq, and_true] at he
  obtain ⟨rfl, rfl⟩ := he
  have := hc (j % 3) u hf.symm
  rw [← this]
  congr 1
  rw [show (⟨b, off, none⟩ : Addr).add j = ⟨b, off + j, none⟩ by unfold Addr.add; split <;> simp_all]
  congr 1
  omega
/-- A row of routes of the call's own, read. -/
theorem Sep.rteSl {B : Nat} {w : World} {A C : List Ent} {e : TypeId} {ao : Option Addr} {n cap : Nat} {L : List Rte} (h : Sep B w (A ++ Ent.row (.slice ao n cap) n 3 e (L.flatMap rteL) :: C)) : RteSl w.heap.size w ao L := by
  intro j r hr
  rw [List.getElem?_map] at hr
  obtain ⟨x, hx, rfl⟩ := Option.map_eq_some_iff.1 hr
  have hl := h.mem.1.1
  rw [rte_len] at hl
  have hj := (List.getElem?_eq_some_iff.1 hx).1
  obtain ⟨g, off, rfl, _, hc, _⟩ := h.rowAt (by omega)
  refine ⟨g, off, rfl, (h.mem.2 g rfl).2, fun t v hv => ?_⟩
  have ht : t < 3 := (List.getElem?_eq_some_iff.1 hv).1
  rw [Nat.add_assoc, hc (j * 3 + t) (by omega), flat_get rteL 3 (fun _ => rfl) ht L j x hx]
  exact hv
theorem rte_shape {B : Nat} {w : World} {A C : List Ent} {v : Value} {L : List Rte} (h : Sep B w (A ++ rteE v L :: C)) : ∃ ao cap, v = .slice ao L.length cap ∧ L.length ≤ cap := by
  obtain ⟨-, ao, cap, rfl, h1, -⟩ := Sep.rowShape h
  exact ⟨ao, cap, rfl, h1⟩
/-- One route of a row that is read. -/
theorem rteSl_at {B : Nat} {w : World} {ao : Option Addr} {L : List Rte} (h : RteSl B w ao L) {k : Nat} {x : Rte} (hx : L[k]? = some x) :
    ∃ b o, ao = some ⟨b, o, none⟩ ∧ b < B ∧ w.cell? ⟨b, o + k * 3, none⟩ = some (.int .i64 x.1) ∧ w.cell? ⟨b, o + k * 3 + 1, none⟩ = some (.int .i64 x.2.1) ∧ w.cell? ⟨b, o + k * 3 + 2, none⟩ = some (.int .i64 x.2.2) := by
  obtain ⟨b, o, rfl, hb, hc⟩ := h k (rteL x) (by rw [List.getElem?_map, hx]; rfl)
  exact ⟨b, o, rfl, hb, hc 0 _ rfl, hc 1 _ rfl, hc 2 _ rfl⟩
theorem rteSl_take {B : Nat} {w : World} {ao : Option Addr} {L : List Rte} (h : RteSl B w ao L) (k : Nat) : RteSl B w ao (L.take k) := by
  intro j cs hj
  refine h j cs ?_
  rw [List.map_take] at hj
  rw [List.getElem?_take] at hj
  split at hj
  · exact hj
  · cases hj
theorem rteSl_cut {B : Nat} {w : World} {ao : Option Addr} {L : List Rte} {cap : Nat} (h : RteSl B w ao L) (hc : L.length ≤ cap) (k : Nat) : RteSl B w (cutAddr ao cap k 3) (L.drop k) := by
  intro j cs hj
  rw [List.map_drop, List.getElem?_drop] at hj
  obtain ⟨b, off, rfl, hb, hx⟩ := h (k + j) cs hj
  have hlt : k + j < L.length := by
    have := (List.getElem?_eq_some_iff.1 hj).1
    simpa using this
  refine ⟨b, off + k * 3, ?_, hb, fun t v hv => ?_⟩
  · unfold cutAddr
    rw [if_neg (by omega)]
    simp [Addr.add]
  · rw [show off + k * 3 + j * 3 + t = off + (k + j) * 3 + t by omega]
    exact hx t v hv
/-- 'append' of nothing. -/
theorem run_append_none {P : Program} {w : World} {t e ty : TypeId} {size bytes : Nat} {z : Value} (T : ElemTy P t e size bytes z) {ao bo : Option Addr} {n cap c : Nat} (hn : n ≤ cap) (hb : bo = none → n = 0 ∧ cap = 0) :
    (Builtin.append_ #[t, t] ty #[.slice bo n cap, .slice ao 0 c]).run P w = .ok (.slice bo n cap) w := by
  obtain ⟨ht, ⟨i, hi, hz, rfl, rfl⟩, hzs, hsz⟩ := T
  cases bo with
  | none =>
    obtain ⟨rfl, rfl⟩ := hb rfl
    cases ao <;> simp [Builtin.append_, run_underlying ht, sizeOf, typeInfo, hi, Builtin.lenOf, Builtin.firstCells, loadCells, loadCellsFrom]
  | some b =>
    cases ao <;> simp [Builtin.append_, run_underlying ht, sizeOf, typeInfo, hi, Builtin.lenOf, Builtin.firstCells, loadCells, loadCellsFrom, hn, storeCells]
/-- 'append(out, some..)'. -/
theorem rteApp {B B' : Nat} {w : World} {A C : List Ent} {v : Value} {X ys : List Rte} {ao : Option Addr} {c : Nat} (ty : TypeId) (h : Sep B w (A ++ rteE v X :: C)) (hB : B ≤ w.heap.size) (hA : RteSl B' w ao ys) (hl : X.length + ys.length ≤ 1000000) :
    ∃ v' w', (Builtin.append_ #[25, 25] ty #[v, .slice ao ys.length c]).run Tryd.prog w = .ok v' w' ∧ Sep B w' (A ++ rteE v' (X ++ ys) :: C) ∧ Below B w w' := by
  rcases Nat.eq_zero_or_pos ys.length with h0 | h0
  · obtain rfl : ys = [] := List.eq_nil_of_length_eq_zero h0
    obtain ⟨-, bo, cap, rfl, hn, hb⟩ := Sep.rowShape h
    refine ⟨_, w, run_append_none elemRte hn hb, ?_, Below.refl _ _⟩
    rw [List.append_nil]; exact h
  · obtain ⟨y, hy⟩ : ∃ y, ys[0]? = some y := ⟨_, List.getElem?_eq_getElem h0⟩
    obtain ⟨b, o, rfl, -, -⟩ := rteSl_at hA hy
    obtain ⟨v', w', hr, hs, hb⟩ := run_append_sep elemRte ty h hB ⟨b, o, none⟩ ys.length c (ys.flatMap rteL) (rte_len ys) (rteSl_flat hA) rte_one h0 (by omega) (by unfold maxLen; omega)
    refine ⟨v', w', hr, ?_, hb⟩
    unfold rteE
    rw [List.length_append, List.flatMap_append]
    exact hs
/-- A route of one's own in a new block, the last one. -/
theorem rteSl_new (w : World) (g : Nat) (hg : g = w.heap.size) (x : Rte) (e : TypeId) : RteSl (g + 1) (w.alloc (.cells #[.int .i64 x.1, .int .i64 x.2.1, .int .i64 x.2.2] e)) (some ⟨g, 0, none⟩) [x] := by
  subst hg
  intro j r hr
  rw [List.getElem?_map] at hr
  obtain ⟨y, hy, rfl⟩ := Option.map_eq_some_iff.1 hr
  match j, hy with
  | 0, hy =>
    obtain rfl : x = y := by simpa using hy
    refine ⟨w.heap.size, 0, rfl, Nat.lt_succ_self _, fun t v hv => ?_⟩
    rw [World.cell?_alloc_mark]
    simp only [Nat.zero_mul, Nat.zero_add]
    rw [← Array.getElem?_toList]
    exact hv
end Go.Proofs.YtbcfcjecobihnaaDoor
