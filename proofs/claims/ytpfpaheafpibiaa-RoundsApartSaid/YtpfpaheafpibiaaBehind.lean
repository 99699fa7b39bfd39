/- ferryhytheref1.Behind: a new row, one more behind it. -/
import Derived.Test.YtpfpaheafpibiaaRows
import Derived.Test.YtpfpaheafpibiaaBase
import Derived.Test.YtpfpaheafpibiaaElem
import Derived.Test.YtpfpaheafpibiaaRow2
namespace Go.Proofs.Ytpfpaheafpibiaa
open Go.RowKit
set_option linter.unusedVariables false
set_option maxRecDepth 100000

/-- 'append(nil, s...)' of an empty s. -/
theorem wpList_append_none {P : Program} {w : World} {t e : TypeId} {size bytes : Nat} {z : Value} {ops : Array Oper} {rest : List Oper} {o : Oper} {a : Act} {Q : Exit → Act → World → Prop} (hgd : Region.wanted o (yielded ops a.tmps) = true) (s x : Operand)
    (ho : o.op = .call { callee := .builtin .append, args := #[s, x], argTypes := #[t, t] }) (T : ElemTy P t e size bytes z) (hs : a.eval s = .slice none 0 0) (ao : Option Addr) (ac : Nat) (hx : a.eval x = .slice ao 0 ac)
    (h : wpList P ops Q rest (a.put o.dst (.slice none 0 0)) w) : wpList P ops Q (o :: rest) a w := by
  refine wpList_wanted hgd fun K hK => ?_
  obtain ⟨ht, ⟨i, hi, hz, rfl, rfl⟩, hzs, hsz⟩ := T
  have hr : (Builtin.append_ #[t, t] o.type #[.slice none 0 0, .slice ao 0 ac]).run P w = .ok (.slice none 0 0) w := by
    cases ao <;> simp [Builtin.append_, run_underlying ht, sizeOf, typeInfo, hi, Builtin.lenOf, Builtin.firstCells, loadCells, loadCellsFrom]
  unfold Oper.wp execOp
  simp only [ho, resolve, invoke, builtin, Sem.run_bind, Sem.run_pure, Result.andThen_ok, List.map_toArray, List.map_cons, List.map_nil, hs, hx, hr]
  exact hK _ _ h

/-- ferryhytheref1.Behind: a new row, one more behind it. -/
theorem behind_any (ao : Option Addr) (len ac B : Nat) (xs : List Int) (y : Int) (w : World) (hA : IntSl B w ao xs) (hlen : len = xs.length) (hB : B ≤ w.heap.size) (hl : xs.length ≤ 1000000) :
    Calls Try.prog 11 #[.slice ao len ac, .int .i64 y] w fun e w' => ∃ v, e = .returned v ∧ Sep w.heap.size w' [Ent.ints 3 v (xs ++ [y])] ∧ Below w.heap.size w w' := by
  subst hlen
  have HN := Lib.hid ((Sep.nil w.heap.size w).intsNil 3)
  have HR := Lib.hid ((Sep.nil w.heap.size w).rowNil 1 3)
  rcases Nat.eq_zero_or_pos xs.length with h0 | h0
  · obtain rfl : xs = [] := List.eq_nil_of_length_eq_zero h0
    clear hA h0
    go_enter Try.func11, Try.ntmps11
    go_wp2_with (first
      | (at_builtin; refine wpList_append_none rfl (.tmp 6) (.tmp 7) rfl elemInt8 rfl _ _ rfl ?_)
      | (at_builtin; refine wpList_append_int rfl (.tmp 9) (.tmp 11) rfl elemInt8 (A := []) rfl HN.out (Nat.le_refl _) rfl (by simp) ?_))
    intro v' w2 hs hb
    have HS2 := Lib.hid hs
    have HB2 := Lib.hid hb
    clear hs hb
    go_wp2
    go_ret
    exact ⟨_, rfl, HS2.out, HB2.out⟩
  · obtain ⟨x0, hx0⟩ : ∃ x, xs[0]? = some x := ⟨_, List.getElem?_eq_getElem h0⟩
    obtain ⟨b, off, rfl, hb, _⟩ := hA 0 x0 hx0
    have hw1 : ∀ (j : Nat) (u : Value), (xs.map (Value.int .i64))[j]? = some u → w.cell? ((⟨b, off, none⟩ : Addr).add j) = some u := by
      intro j u hu
      rw [List.getElem?_map] at hu
      cases hy : xs[j]? with
      | none => rw [hy] at hu; cases hu
      | some y =>
        rw [hy] at hu
        obtain rfl : Value.int .i64 y = u := by simpa using hu
        obtain ⟨b', o', he, _, c⟩ := hA j y hy
        simp only [Option.some.injEq, Addr.mk.injEq, and_true] at he
        obtain ⟨rfl, rfl⟩ := he
        rw [show (⟨b, off, none⟩ : Addr).add j = ⟨b, off + j, none⟩ by unfold Addr.add; split <;> simp_all]
        exact c
    have ho1 : ∀ u ∈ xs.map (Value.int .i64), u.oneCell' = true := by
      intro u hu
      obtain ⟨y, _, rfl⟩ := List.mem_map.1 hu
      rfl
    have HW := Lib.hid hw1
    have HO := Lib.hid ho1
    clear hw1 ho1 hA hx0
    go_enter Try.func11, Try.ntmps11
    go_wp2_with (at_builtin; refine wpList_append_sep (A := []) rfl (.tmp 6) (.tmp 7) rfl elemInt8 rfl HR.out (Nat.le_refl _) ⟨b, off, none⟩ xs.length ac (xs.map (Value.int .i64)) rfl (by simp) HW.out HO.out h0 (by omega) (by unfold maxLen; omega) ?_)
    intro v' w2 hs hb2
    have hs2 : Sep w.heap.size w2 [Ent.ints 3 v' xs] := by
      have := hs
      simpa [Ent.ints] using this
    obtain ⟨ao2, c2, rfl, _, _⟩ := hs2.intsShape (A := []) (C := [])
    have HS2 := Lib.hid hs2
    have HB2 := Lib.hid hb2
    clear hs hb2 hs2
    go_wp2_with (at_builtin; refine wpList_append_int rfl (.tmp 9) (.tmp 11) rfl elemInt8 (A := []) rfl HS2.out HB2.out.size rfl (by omega) ?_)
    intro v3 w3 hs3 hb3
    have HS3 := Lib.hid hs3
    have HB3 := Lib.hid (HB2.out.trans hb3)
    clear hs3 hb3
    go_wp2
    go_ret
    exact ⟨_, rfl, HS3.out, HB3.out⟩
end Go.Proofs.Ytpfpaheafpibiaa
