/- Rows of links of the call's own. -/
import Derived.Test.YtnmddgjgmdegoaaDoorRows
import Derived.Test.YtnmddgjgmdegoaaDoorLnk
import Derived.OwnWalk
namespace Go.Proofs.YtnmddgjgmdegoaaDoor
open Go.RowKit
set_option linter.unusedVariables false

theorem elemLnk : ElemTy Tryd.prog 54 77 3 24 (.agg #[.int .i64 0, .int .i64 0, .int .i64 0]) := ⟨Tryd.underlying54, info_parts (by kernel_rfl), rfl, by decide⟩
/-- The cells of links that are read, one behind another. -/
theorem RowSl.flat {B : Nat} {w : World} {b off : Nat} {L : List Lnk} (h : RowSl B w (some ⟨b, off, none⟩) 3 (L.map lnkC)) : ∀ (j : Nat) (u : Value), (L.flatMap lnkC)[j]? = some u → w.cell? ((⟨b, off, none⟩ : Addr).add j) = some u := by
  intro j u hu
  have hlen : (L.flatMap lnkC).length = L.length * 3 := by
    clear h hu
    induction L with
    | nil => rfl
    | cons x r ih => rw [List.flatMap_cons, List.length_append, ih, List.length_cons]; simp [lnkC]; omega
  have hj := (List.getElem?_eq_some_iff.1 hu).1
  obtain ⟨x, hx⟩ : ∃ x, L[j / 3]? = some x := ⟨_, List.getElem?_eq_getElem (by omega)⟩
  have h3 : j % 3 < 3 := Nat.mod_lt _ (by decide)
  have hf := flat_get lnkC 3 (fun _ => rfl) h3 L (j / 3) x hx
  rw [show j / 3 * 3 + j % 3 = j by omega, hu] at hf
  obtain ⟨b', off', he, _, hc⟩ := h (j / 3) (lnkC x) (by rw [List.getElem?_map, hx]; rfl)
  simp only [Option.some.injEq, Addr.mk.injEq, and_true] at he
  obtain ⟨rfl, rfl⟩ := he
  have := hc (j % 3) u hf.symm
  rw [← this]
  congr 1
  rw [show (⟨b, off, none⟩ : Addr).add j = ⟨b, off + j, none⟩ by unfold Addr.add; split <;> simp_all]
  congr 1
  omega
theorem lnk_one {L : List Lnk} : ∀ u ∈ L.flatMap lnkC, u.oneCell' = true := by
  intro u hu
  obtain ⟨x, _, hx⟩ := List.mem_flatMap.1 hu
  simp only [lnkC, List.mem_cons, List.not_mem_nil, or_false] at hx
  rcases hx with rfl | rfl | rfl <;> rfl
theorem lnk_len (L : List Lnk) : (L.flatMap lnkC).length = L.length * 3 := by
  induction L with
  | nil => rfl
  | cons x r ih => rw [List.flatMap_cons, List.length_append, ih, List.length_cons]; simp [lnkC]; omega
/-- A row of links of the call's own, read. -/
theorem Sep.lnkSl {B : Nat} {w : World} {A C : List Ent} {e : TypeId} {ao : Option Addr} {n cap : Nat} {L : List Lnk} (h : Sep B w (A ++ Ent.row (.slice ao n cap) n 3 e (L.flatMap lnkC) :: C)) : RowSl w.heap.size w ao 3 (L.map lnkC) := by
  intro j r hr
  rw [List.getElem?_map] at hr
  obtain ⟨x, hx, rfl⟩ := Option.map_eq_some_iff.1 hr
  have hl := h.mem.1.1
  rw [lnk_len] at hl
  have hj := (List.getElem?_eq_some_iff.1 hx).1
  obtain ⟨g, off, rfl, _, hc, _⟩ := h.rowAt (by omega)
  refine ⟨g, off, rfl, (h.mem.2 g rfl).2, fun t v hv => ?_⟩
  have ht : t < 3 := (List.getElem?_eq_some_iff.1 hv).1
  rw [Nat.add_assoc, hc (j * 3 + t) (by omega), flat_get lnkC 3 (fun _ => rfl) ht L j x hx]
  exact hv
theorem lnkSl_new (w : World) (g : Nat) (hg : g = w.heap.size) (cs : Array Value) (e : TypeId) (L : List Lnk) (h : cs.toList = L.flatMap lnkC) : RowSl (g + 1) (w.alloc (.cells cs e)) (some ⟨g, 0, none⟩) 3 (L.map lnkC) := by
  subst hg
  intro j r hr
  rw [List.getElem?_map] at hr
  obtain ⟨x, hx, rfl⟩ := Option.map_eq_some_iff.1 hr
  refine ⟨w.heap.size, 0, rfl, Nat.lt_succ_self _, fun t v hv => ?_⟩
  have ht : t < 3 := (List.getElem?_eq_some_iff.1 hv).1
  rw [World.cell?_alloc_mark, Nat.zero_add, ← Array.getElem?_toList, h, flat_get lnkC 3 (fun _ => rfl) ht L j x hx]
  exact hv

/-- 'append' as one step of a region that draws, where its run is known. -/
theorem step_append_run {P : Program} {ops : Array Oper} {o : Oper} {a : Act} {w : World} {K : Act → World → Prop} {Q : Exit → Act → World → Prop} {E : Prop} (hgd : o.guard = none) (s x : Operand) (t : TypeId)
    (ho : o.op = .call { callee := .builtin .append, args := #[s, x], argTypes := #[t, t] }) (v u : Value) (hs : a.eval s = v) (hx : a.eval x = u) {v' : Value} {w' : World}
    (hr : (Builtin.append_ #[t, t] o.type #[v, u]).run P w = .ok v' w') (h : K (a.put o.dst v') w') : if Region.wanted o (yielded ops a.tmps) = true then Oper.wp P o a w K Q else E := by
  have hw : Region.wanted o (yielded ops a.tmps) = true := by simp [Region.wanted, hgd]
  rw [if_pos hw]
  unfold Oper.wp execOp
  simp only [ho, resolve, invoke, builtin, Sem.run_bind, Sem.run_pure, Result.andThen_ok, List.map_toArray, List.map_cons, List.map_nil, hs, hx, hr]
  exact h
end Go.Proofs.YtnmddgjgmdegoaaDoor
