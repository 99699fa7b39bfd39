/- maxminFact: the closed fact holds; ferryhytheref1.Behind. -/
import Derived.Test.YtciolkmhafdlpaaMaxShare
import Derived.Test.YtciolkmhafdlpaaInts
namespace Go.Proofs.Ytciolkmhafdlpaa
open Go.RowKit
set_option linter.unusedVariables false

theorem mmFact_out : mmOut [10, 4] [[0], [0, 1], [1]] = [8, 2, 2] := by decide +kernel
theorem mmFact_args : MmOk [10, 4] [[0], [0, 1], [1]] := ⟨by decide, by decide, by decide, by decide⟩

/-- The rows of a slice of slices that is laid out in new blocks. -/
theorem intSl_at (w : World) (g : Nat) (hg : g = w.heap.size) (cs : Array Value) (e : TypeId) (xs : List Int) (h : cs.toList = xs.map (Value.int .i64)) : IntSl (g + 1) (w.alloc (.cells cs e)) (some ⟨g, 0, none⟩) xs := by
  subst hg; exact intSl_new w cs e xs h
theorem IntSl.over {w : World} {ao : Option Addr} {xs : List Int} {B : Nat} (h : IntSl B w ao xs) (hB : B ≤ w.heap.size) (o : Obj) (B' : Nat) (hb : B ≤ B') : IntSl B' (w.alloc o) ao xs := (h.past hB o).mono hb

set_option maxHeartbeats 2000000 in
theorem mmFact_any (w : World) : Calls Try.prog 11 #[] w fun e w' => e = .returned (.bool true) ∧ Below w.heap.size w w' := by
  obtain ⟨rs, hrs⟩ : ∃ rs : List Stp, rs = [(some ⟨w.heap.size + 1, 0, none⟩, 1, [0]), (some ⟨w.heap.size + 1 + 1, 0, none⟩, 2, [0, 1]), (some ⟨w.heap.size + 1 + 1 + 1, 0, none⟩, 1, [1])] := ⟨_, rfl⟩
  have b1 : Below w.heap.size w (w.alloc (.cells #[.int .i64 10, .int .i64 4] 3)) := below_alloc w _
  have r1 := intSl_at w _ rfl #[.int .i64 10, .int .i64 4] 3 [10, 4] rfl
  have z1 : (w.alloc (.cells #[.int .i64 10, .int .i64 4] 3)).heap.size = w.heap.size + 1 := by simp
  generalize hw1 : w.alloc (.cells #[.int .i64 10, .int .i64 4] 3) = w1 at *
  have b2 := b1.alloc (by omega) (.cells #[.int .i64 0] 3)
  have r2 := intSl_at w1 _ z1.symm #[.int .i64 0] 3 [0] rfl
  have r1' := r1.over (by omega) (.cells #[.int .i64 0] 3) (w.heap.size + 1 + 1) (by omega)
  have z2 : (w1.alloc (.cells #[.int .i64 0] 3)).heap.size = w.heap.size + 1 + 1 := by simp [z1]
  generalize hw2 : w1.alloc (.cells #[.int .i64 0] 3) = w2 at *
  have b3 := b2.alloc (by omega) (.cells #[.int .i64 0, .int .i64 1] 3)
  have r3 := intSl_at w2 _ z2.symm #[.int .i64 0, .int .i64 1] 3 [0, 1] rfl
  have r1'' := r1'.over (by omega) (.cells #[.int .i64 0, .int .i64 1] 3) (w.heap.size + 1 + 1 + 1) (by omega)
  have r2' := r2.over (by omega) (.cells #[.int .i64 0, .int .i64 1] 3) (w.heap.size + 1 + 1 + 1) (by omega)
  have z3 : (w2.alloc (.cells #[.int .i64 0, .int .i64 1] 3)).heap.size = w.heap.size + 1 + 1 + 1 := by simp [z2]
  generalize hw3 : w2.alloc (.cells #[.int .i64 0, .int .i64 1] 3) = w3 at *
  have b4 := b3.alloc (by omega) (.cells #[.int .i64 1] 3)
  have r4 := intSl_at w3 _ z3.symm #[.int .i64 1] 3 [1] rfl
  have r1a := r1''.over (by omega) (.cells #[.int .i64 1] 3) (w.heap.size + 1 + 1 + 1 + 1) (by omega)
  have r2a := r2'.over (by omega) (.cells #[.int .i64 1] 3) (w.heap.size + 1 + 1 + 1 + 1) (by omega)
  have r3a := r3.over (by omega) (.cells #[.int .i64 1] 3) (w.heap.size + 1 + 1 + 1 + 1) (by omega)
  have z4 : (w3.alloc (.cells #[.int .i64 1] 3)).heap.size = w.heap.size + 1 + 1 + 1 + 1 := by simp [z3]
  generalize hw4 : w3.alloc (.cells #[.int .i64 1] 3) = w4 at *
  have b5 := b4.alloc (by omega) (.cells #[.slice (some ⟨w.heap.size + 1, 0, none⟩) 1 1, .slice (some ⟨w.heap.size + 1 + 1, 0, none⟩) 2 2, .slice (some ⟨w.heap.size + 1 + 1 + 1, 0, none⟩) 1 1] 22)
  have r5 : RowSl (w.heap.size + 1 + 1 + 1 + 1 + 1) (w4.alloc (.cells #[.slice (some ⟨w.heap.size + 1, 0, none⟩) 1 1, .slice (some ⟨w.heap.size + 1 + 1, 0, none⟩) 2 2, .slice (some ⟨w.heap.size + 1 + 1 + 1, 0, none⟩) 1 1] 22)) (some ⟨w.heap.size + 1 + 1 + 1 + 1, 0, none⟩) 1 (rs.map stpC) :=
    rowSl_new _ _ z4.symm _ _ rs (by rw [hrs]; rfl)
  have r1b := r1a.over (by omega) (.cells #[.slice (some ⟨w.heap.size + 1, 0, none⟩) 1 1, .slice (some ⟨w.heap.size + 1 + 1, 0, none⟩) 2 2, .slice (some ⟨w.heap.size + 1 + 1 + 1, 0, none⟩) 1 1] 22) (w.heap.size + 1 + 1 + 1 + 1 + 1) (by omega)
  have r2b := r2a.over (by omega) (.cells #[.slice (some ⟨w.heap.size + 1, 0, none⟩) 1 1, .slice (some ⟨w.heap.size + 1 + 1, 0, none⟩) 2 2, .slice (some ⟨w.heap.size + 1 + 1 + 1, 0, none⟩) 1 1] 22) (w.heap.size + 1 + 1 + 1 + 1 + 1) (by omega)
  have r3b := r3a.over (by omega) (.cells #[.slice (some ⟨w.heap.size + 1, 0, none⟩) 1 1, .slice (some ⟨w.heap.size + 1 + 1, 0, none⟩) 2 2, .slice (some ⟨w.heap.size + 1 + 1 + 1, 0, none⟩) 1 1] 22) (w.heap.size + 1 + 1 + 1 + 1 + 1) (by omega)
  have r4b := r4.over (by omega) (.cells #[.slice (some ⟨w.heap.size + 1, 0, none⟩) 1 1, .slice (some ⟨w.heap.size + 1 + 1, 0, none⟩) 2 2, .slice (some ⟨w.heap.size + 1 + 1 + 1, 0, none⟩) 1 1] 22) (w.heap.size + 1 + 1 + 1 + 1 + 1) (by omega)
  have z5 : (w4.alloc (.cells #[.slice (some ⟨w.heap.size + 1, 0, none⟩) 1 1, .slice (some ⟨w.heap.size + 1 + 1, 0, none⟩) 2 2, .slice (some ⟨w.heap.size + 1 + 1 + 1, 0, none⟩) 1 1] 22)).heap.size = w.heap.size + 1 + 1 + 1 + 1 + 1 := by simp [z4]
  have r6 : StpsOk (w.heap.size + 1 + 1 + 1 + 1 + 1) (w4.alloc (.cells #[.slice (some ⟨w.heap.size + 1, 0, none⟩) 1 1, .slice (some ⟨w.heap.size + 1 + 1, 0, none⟩) 2 2, .slice (some ⟨w.heap.size + 1 + 1 + 1, 0, none⟩) 1 1] 22)) rs := by
    intro r hr
    rw [hrs] at hr
    simp only [List.mem_cons, List.not_mem_nil, or_false] at hr
    rcases hr with rfl | rfl | rfl
    · exact ⟨r2b, by simp, by simp [maxLen]⟩
    · exact ⟨r3b, by simp, by simp [maxLen]⟩
    · exact ⟨r4b, by simp, by simp [maxLen]⟩
  have hrl : rs.length = 3 := by rw [hrs]; rfl
  have hro : rowsOf rs = [[0], [0, 1], [1]] := by rw [hrs]; rfl
  clear r1 r1' r1'' r1a r2 r2' r2a r2b r3 r3a r3b r4 r4b b1 b2 b3 b4
  rw [← hw4, ← hw3, ← hw2, ← hw1] at r5 r6 r1b b5 z5
  have R5 := Lib.hid r5
  have R6 := Lib.hid r6
  have R1 := Lib.hid r1b
  have HRL := Lib.hid hrl
  have HRO := Lib.hid hro
  have HBE := Lib.hid b5
  have HZ := Lib.hid z5
  clear r5 r6 r1b hrl hro hrs b5 z1 z2 z3 z4 z5 hw1 hw2 hw3 hw4
  go_enter Try.func11, Try.ntmps11
  go_wp2_with fail
  refine (mmShare_ok _ 2 2 [10, 4] _ 3 3 _ rs _ R1.out rfl R5.out R6.out HRL.out.symm (Nat.le_of_eq HZ.out.symm) (by rw [HRO.out]; exact mmFact_args)).mono ?_
  rintro e w5 ⟨va, rfl, hs, hb⟩
  have HB1 := Lib.hid (HBE.out.trans (hb.mono HBE.out.size)); clear hb
  rw [HRO.out, mmFact_out] at hs
  obtain ⟨ao1, c1, rfl, _, _⟩ := hs.intsShape (A := []) (C := [])
  have HX := Lib.hid (hs.intSl (A := []) (C := [])); clear hs
  have HX2 := Lib.hid (fun o => HX.out.past (Nat.le_refl _) o)
  go_wp2_with fail
  refine (ints_any _ _ _ _ _ _ _ _ [8, 2, 2] [8, 2, 2] true _ (HX2.out _) (intSl_new _ _ _ _ rfl) rfl rfl (by decide) (by decide)).mono ?_
  rintro e w6 ⟨rfl, hd⟩
  have HB3 := Lib.hid (below_past (below_of_drew hd)); clear hd
  go_wp2
  go_ret
  exact ⟨rfl, HB1.out.trans (HB3.out.mono HB1.out.size)⟩

/-- 'append(nil, s...)' of an empty s. -/
theorem wpList_append_none {P : Program} {w : World} {t e : TypeId} {size bytes : Nat} {z : Value} {ops : Array Oper} {rest : List Oper} {o : Oper} {a : Act} {Q : Exit → Act → World → Prop} (hgd : Region.wanted o (yielded ops a.tmps) = true) (s x : Operand)
    (ho : o.op = .call { callee := .builtin .append, args := #[s, x], argTypes := #[t, t] }) (T : ElemTy P t e size bytes z) (hs : a.eval s = .slice none 0 0) (ao : Option Addr) (ac : Nat) (hx : a.eval x = .slice ao 0 ac)
    (h : wpList P ops Q rest (a.put o.dst (.slice none 0 0)) w) : wpList P ops Q (o :: rest) a w := by
  refine wpList_wanted hgd fun K hK => ?_
  obtain ⟨ht, ⟨i, hi, hz, rfl, rfl⟩, hzs, hsz⟩ := T
  have hr : (Builtin.append_ #[t, t] o.type #[.slice none 0 0, .slice ao 0 ac]).run P w = .ok (.slice none 0 0) w := by
    cases ao <;> simp [Builtin.append_, run_underlying ht, sizeOf, typeInfo, hi, Builtin.lenOf, Builtin.firstCells, loadCells, loadCellsFrom]
  unfold Oper.wp execOp
  simp only [ho, resolve, invoke, builtin, Sem.run_bind, Sem.run_pure, Result.andThen_ok, List.map_toArray, List.map_cons, List.map_nil, hs, hx, hr]
  exact hK _ _ h

/-- ferryhytheref1.Behind: a new row, one more behind it. -/
theorem behind_any (ao : Option Addr) (len ac B : Nat) (xs : List Int) (y : Int) (w : World) (hA : IntSl B w ao xs) (hlen : len = xs.length) (hB : B ≤ w.heap.size) (hl : xs.length ≤ 1000000) :
    Calls Try.prog 13 #[.slice ao len ac, .int .i64 y] w fun e w' => ∃ v, e = .returned v ∧ Sep w.heap.size w' [Ent.ints 3 v (xs ++ [y])] ∧ Below w.heap.size w w' := by
  subst hlen
  have HN := Lib.hid ((Sep.nil w.heap.size w).intsNil 3)
  have HR := Lib.hid ((Sep.nil w.heap.size w).rowNil 1 3)
  rcases Nat.eq_zero_or_pos xs.length with h0 | h0
  · obtain rfl : xs = [] := List.eq_nil_of_length_eq_zero h0
    clear hA h0
    go_enter Try.func13, Try.ntmps13
    go_wp2_with (first
      | (at_builtin; refine wpList_append_none rfl (.tmp 6) (.tmp 7) rfl elemInt8 rfl _ _ rfl ?_)
      | (at_builtin; refine wpList_append_int rfl (.tmp 9) (.tmp 11) rfl elemInt8 (A := []) rfl HN.out (Nat.le_refl _) rfl (by simp) ?_))
    intro v' w2 hs hb
    have HS2 := Lib.hid hs
    have HB2 := Lib.hid hb
    clear hs hb
    go_wp2
    go_ret
    exact ⟨_, rfl, HS2.out, HB2.out⟩
  · obtain ⟨x0, hx0⟩ : ∃ x, xs[0]? = some x := ⟨_, List.getElem?_eq_getElem h0⟩
    obtain ⟨b, off, rfl, hb, _⟩ := hA 0 x0 hx0
    have hw1 : ∀ (j : Nat) (u : Value), (xs.map (Value.int .i64))[j]? = some u → w.cell? ((⟨b, off, none⟩ : Addr).add j) = some u := by
      intro j u hu
      rw [List.getElem?_map] at hu
      cases hy : xs[j]? with
      | none => rw [hy] at hu; cases hu
      | some y =>
        rw [hy] at hu
        obtain rfl : Value.int .i64 y = u := by simpa using hu
        obtain ⟨b', o', he, _, c⟩ := hA j y hy
        simp only [Option.some.injEq, Addr.mk.injEq, and_true] at he
        obtain ⟨rfl, rfl⟩ := he
        rw [show (⟨b, off, none⟩ : Addr).add j = ⟨b, off + j, none⟩ by unfold Addr.add; split <;> simp_all]
        exact c
    have ho1 : ∀ u ∈ xs.map (Value.int .i64), u.oneCell' = true := by
      intro u hu
      obtain ⟨y, _, rfl⟩ := List.mem_map.1 hu
      rfl
    have HW := Lib.hid hw1
    have HO := Lib.hid ho1
    clear hw1 ho1 hA hx0
    go_enter Try.func13, Try.ntmps13
    go_wp2_with (at_builtin; refine wpList_append_sep (A := []) rfl (.tmp 6) (.tmp 7) rfl elemInt8 rfl HR.out (Nat.le_refl _) ⟨b, off, none⟩ xs.length ac (xs.map (Value.int .i64)) rfl (by simp) HW.out HO.out h0 (by omega) (by unfold maxLen; omega) ?_)
    intro v' w2 hs hb2
    have hs2 : Sep w.heap.size w2 [Ent.ints 3 v' xs] := by
      have := hs
      simpa [Ent.ints] using this
    obtain ⟨ao2, c2, rfl, _, _⟩ := hs2.intsShape (A := []) (C := [])
    have HS2 := Lib.hid hs2
    have HB2 := Lib.hid hb2
    clear hs hb2 hs2
    go_wp2_with (at_builtin; refine wpList_append_int rfl (.tmp 9) (.tmp 11) rfl elemInt8 (A := []) rfl HS2.out HB2.out.size rfl (by omega) ?_)
    intro v3 w3 hs3 hb3
    have HS3 := Lib.hid hs3
    have HB3 := Lib.hid (HB2.out.trans hb3)
    clear hs3 hb3
    go_wp2
    go_ret
    exact ⟨_, rfl, HS3.out, HB3.out⟩
end Go.Proofs.Ytciolkmhafdlpaa
