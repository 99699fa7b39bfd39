/- ferryhytheref1.Set: a new row, one number another. -/
import Derived.Test.YtfnfelmaidfppaaDoorBehind
import Derived.Test.YtfnfelmaidfppaaDoorElem
import Derived.Deep.DeepCutAuto
namespace Go.Proofs.YtfnfelmaidfppaaDoor
open Go.RowKit
set_option linter.unusedVariables false
set_option maxRecDepth 100000

/-- ferryhytheref1.Set: a new row, one number another. -/
theorem set_any (ao : Option Addr) (len ac B k : Nat) (xs : List Int) (y : Int) (w : World) (hA : IntSl B w ao xs) (hlen : len = xs.length) (hB : B ≤ w.heap.size) (hk : k < xs.length) (hl : xs.length ≤ 1000000) :
    Calls Tryd.prog 15 #[.slice ao len ac, .int .i64 k, .int .i64 y] w fun e w' => ∃ v, e = .returned v ∧ Sep w.heap.size w' [Ent.ints 3 v (xs.set k y)] ∧ Below w.heap.size w w' := by
  subst hlen
  have HR := Lib.hid ((Sep.nil w.heap.size w).rowNil 1 3)
  have h0 : 0 < xs.length := by omega
  obtain ⟨x0, hx0⟩ : ∃ x, xs[0]? = some x := ⟨_, List.getElem?_eq_getElem h0⟩
  obtain ⟨xk, hxk⟩ : ∃ x, xs[k]? = some x := ⟨_, List.getElem?_eq_getElem hk⟩
  obtain ⟨b, off, rfl, hb, _⟩ := hA 0 x0 hx0
  have hw1 : ∀ (j : Nat) (u : Value), (xs.map (Value.int .i64))[j]? = some u → w.cell? ((⟨b, off, none⟩ : Addr).add j) = some u := by
    intro j u hu
    rw [List.getElem?_map] at hu
    cases hy : xs[j]? with
    | none => rw [hy] at hu; cases hu
    | some y =>
      rw [hy] at hu
      obtain rfl : Value.int .i64 y = u := by simpa using hu
      obtain ⟨b', o', he, _, c⟩ := hA j y hy
      simp only [Option.some.injEq, Addr.mk.injEq, and_true] at he
      obtain ⟨rfl, rfl⟩ := he
      rw [show (⟨b, off, none⟩ : Addr).add j = ⟨b, off + j, none⟩ by unfold Addr.add; split <;> simp_all]
      exact c
  have ho1 : ∀ u ∈ xs.map (Value.int .i64), u.oneCell' = true := by
    intro u hu
    obtain ⟨y, _, rfl⟩ := List.mem_map.1 hu
    rfl
  have HW := Lib.hid hw1
  have HO := Lib.hid ho1
  have HXK := Lib.hid hxk
  clear hw1 ho1 hA hx0 hxk
  go_enter Tryd.func15, Tryd.ntmps15
  go_upto_region 3 with (at_builtin; refine wpList_append_sep (A := []) rfl (.tmp 8) (.tmp 9) rfl elemInt8 rfl HR.out (Nat.le_refl _) ⟨b, off, none⟩ xs.length ac (xs.map (Value.int .i64)) rfl (by simp) HW.out HO.out h0 (by omega) (by unfold maxLen; omega) ?_)
  intro v' w2 hs hb2
  have hs2 : Sep w.heap.size w2 [Ent.ints 3 v' xs] := by
    have := hs
    simpa [Ent.ints] using this
  obtain ⟨ao2, c2, rfl, _, _⟩ := hs2.intsShape (A := []) (C := [])
  obtain ⟨g2, o2, rfl, d1, d2⟩ := Sep.intsAt (A := []) (C := []) hs2 HXK.out
  have hs3 := Sep.intsSet (A := []) (C := []) hs2 k y
  have hb3 := hb2.setCell (p := ⟨g2, o2 + k, none⟩) (Sep.mem (A := []) (C := []) hs2 |>.2 g2 rfl).1 (.int .i64 y)
  have hki : (k : Int) < (xs.length : Int) := by omega
  have hk0 : (0 : Int) ≤ (k : Int) := by omega
  have HS3 := Lib.hid hs3
  have HB3 := Lib.hid hb3
  clear hs hb2 hs2 hs3 hb3
  go_wp2
  go_ret
  refine ⟨_, rfl, ?_, HB3.out⟩
  have := HS3.out
  unfold Ent.ints at this ⊢
  rw [List.length_set] at this ⊢
  exact this
end Go.Proofs.YtfnfelmaidfppaaDoor
