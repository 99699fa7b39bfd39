/- Slices of slices of numbers that the call lays out itself. -/
import Derived.Test.YtpfpaheafpibiaaStp
import Derived.Test.YtpfpaheafpibiaaBase
namespace Go.Proofs.Ytpfpaheafpibiaa
open Go.RowKit
set_option linter.unusedVariables false

/-- A row's value. -/
def stpV (r : Stp) : Value := .slice r.1 r.2.2.length r.2.1
theorem stpC_eq (r : Stp) : stpC r = [stpV r] := rfl
theorem elemRow : ElemTy Try.prog 22 24 1 24 (.slice none 0 0) :=
  ⟨Try.underlying22, info_parts (z := .slice none 0 0) (size := 1) (bytes := 24) (by kernel_rfl), rfl, by decide⟩

section
variable {B : Nat} {w : World} {A C : List Ent}
theorem Sep.blkInts {g : Nat} {e : TypeId} {xs : List Int} (h : Sep B w (A ++ Ent.blk1 g e (xs.map (Value.int .i64)) :: C)) : IntSl w.heap.size w (some ⟨g, 0, none⟩) xs := fun j x hx =>
  ⟨g, 0, rfl, h.blkLt.2, by rw [Nat.zero_add]; exact (h.blkAt (by rw [List.getElem?_map, hx]; rfl)).1⟩
theorem Sep.blkRows {g : Nat} {e : TypeId} {rs : List Stp} (h : Sep B w (A ++ Ent.blk1 g e (rs.map stpV) :: C)) : RowSl w.heap.size w (some ⟨g, 0, none⟩) 1 (rs.map stpC) := by
  intro j row hj
  rw [List.getElem?_map] at hj
  cases hr : rs[j]? with
  | none => rw [hr] at hj; cases hj
  | some r =>
    rw [hr] at hj
    obtain rfl : stpC r = row := by simpa using hj
    refine ⟨g, 0, rfl, h.blkLt.2, ?_⟩
    intro i v hv
    match i, hv with
    | 0, hv =>
      obtain rfl : stpV r = v := by simpa [stpC_eq] using hv
      rw [show 0 + j * 1 + 0 = j by omega]
      exact (h.blkAt (by rw [List.getElem?_map, hr]; rfl)).1
    | i + 1, hv => simp [stpC] at hv
theorem Sep.rowRows {e : TypeId} {ao : Option Addr} {n cap : Nat} {rs : List Stp} (h : Sep B w (A ++ Ent.row (.slice ao n cap) n 1 e (rs.map stpV) :: C)) (hn : rs.length = n) : RowSl w.heap.size w ao 1 (rs.map stpC) := by
  intro j row hj
  rw [List.getElem?_map] at hj
  cases hr : rs[j]? with
  | none => rw [hr] at hj; cases hj
  | some r =>
    rw [hr] at hj
    obtain rfl : stpC r = row := by simpa using hj
    have hjn : j < n := by have := (List.getElem?_eq_some_iff.1 hr).1; omega
    have hm := h.mem
    obtain ⟨g, off, rfl, hg, hc, _⟩ := h.rowAt (by omega)
    refine ⟨g, off, rfl, (hm.2 g rfl).2, ?_⟩
    intro i v hv
    match i, hv with
    | 0, hv =>
      obtain rfl : stpV r = v := by simpa [stpC_eq] using hv
      rw [show off + j * 1 + 0 = off + j by omega, hc j (by omega), List.getElem?_map, hr]; rfl
    | i + 1, hv => simp [stpC] at hv
/-- Rows in blocks of their own. -/
def blkOf (b : Nat × List Int) : Ent := Ent.blk1 b.1 3 (b.2.map (Value.int .i64))
def stpOf (b : Nat × List Int) : Stp := (some ⟨b.1, 0, none⟩, b.2.length, b.2)
theorem Sep.blksOk {bs : List (Nat × List Int)} (h : Sep B w (A ++ bs.map blkOf)) (hm : ∀ b ∈ bs, b.2.length ≤ maxLen) : StpsOk w.heap.size w (bs.map stpOf) := by
  intro r hr
  obtain ⟨b, hb, rfl⟩ := List.mem_map.1 hr
  obtain ⟨s, t, e⟩ := List.append_of_mem hb
  rw [e, List.map_append, List.map_cons, ← List.append_assoc] at h
  exact ⟨h.blkInts, Nat.le_refl _, hm b hb⟩
end

/-- 'out = append(out, x)', one cell in a new block of its own, the last one. -/
theorem wpList_append_one {P : Program} {B n size bytes : Nat} {w : World} {A C : List Ent} {v y z : Value} {t e te : TypeId} {xs : List Value} {ops : Array Oper} {rest : List Oper} {o : Oper} {a : Act} {Q : Exit → Act → World → Prop} (hgd : Region.wanted o (yielded ops a.tmps) = true) (s x : Operand)
    (ho : o.op = .call { callee := .builtin .append, args := #[s, x], argTypes := #[t, t] }) (T : ElemTy P t e 1 bytes z)
    (hs : a.eval s = v) (hsep : Sep B w (A ++ Ent.row v n 1 e xs :: C)) (hBw : B ≤ w.heap.size)
    (hx : a.eval x = .slice (some ⟨w.heap.size, 0, none⟩) 1 1) (hy : y.oneCell' = true) (hlen : n ≤ 1000000) (hbt : bytes ≤ 1000)
    (h : ∀ v' w', Sep B w' (A ++ Ent.row v' (n + 1) 1 e (xs ++ [y]) :: C) → Below B w w' → wpList P ops Q rest (a.put o.dst v') w') : wpList P ops Q (o :: rest) a (w.alloc (.cells #[y] te)) := by
  have hbb : (n + 1) * bytes ≤ 140737488355328 := Nat.le_trans (Nat.mul_le_mul (by omega : n + 1 ≤ 1000001) hbt) (by decide)
  refine wpList_append_sep hgd s x ho T hs (hsep.alloc _) (by simp; omega) ⟨w.heap.size, 0, none⟩ 1 1 [y] hx rfl ?_ ?_ (by omega) hbb (by unfold maxLen; omega) ?_
  · intro j u hj
    match j, hj with
    | 0, hj => simp at hj; subst hj; simp [Addr.add]
  · intro u hu; simp at hu; subst hu; exact hy
  · intro v' w' h1 h2
    exact h v' w' h1 (((Below.refl B w).alloc hBw _).trans h2)
end Go.Proofs.Ytpfpaheafpibiaa
