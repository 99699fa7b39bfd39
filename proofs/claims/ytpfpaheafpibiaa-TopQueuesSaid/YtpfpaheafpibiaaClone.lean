/- slices.Clone of a slice of ints. -/
import Derived.Test.YtpfpaheafpibiaaRows
import Derived.Test.YtpfpaheafpibiaaBase
import Derived.Test.YtpfpaheafpibiaaElem
import Derived.Lib.SliceRun
import Derived.OwnWalk
namespace Go.Proofs.Ytpfpaheafpibiaa
open Go.RowKit
set_option linter.unusedVariables false

theorem Sep.intsBlk {B : Nat} {w : World} {A C : List Ent} {e : TypeId} {g off n cap : Nat} {xs : List Int} (h : Sep B w (A ++ Ent.ints e (.slice (some ⟨g, off, none⟩) n cap) xs :: C)) : B ≤ g :=
  (h.mem.2 g rfl).1

theorem setCell_size (w : World) (p : Addr) (v : Value) : (w.setCell p v).heap.size = w.heap.size := by simp [World.setCell]

/-- slices.Clone of a slice with something in it: a new row. -/
theorem clone_any (ao : Option Addr) (len ac B : Nat) (xs : List Int) (w : World) (hA : IntSl B w ao xs) (hlen : len = xs.length) (hB : B ≤ w.heap.size) (h0 : 0 < xs.length) (hl : xs.length ≤ 1000000) :
    Calls Try.prog 27 #[.slice ao len ac] w fun e w' => ∃ v, e = .returned v ∧ Sep w.heap.size w' [Ent.ints 3 v xs] ∧ Below w.heap.size w w' := by
  subst hlen
  obtain ⟨x, hx⟩ : ∃ x, xs[0]? = some x := ⟨_, List.getElem?_eq_getElem h0⟩
  obtain ⟨b, off, rfl, hb, _⟩ := hA 0 x hx
  have HX := Lib.hid hx; clear hx
  have hs0 := Sep.rowMade (Sep.nil w.heap.size w) (Nat.le_refl _) #[] 0 1 3 rfl (by unfold maxLen; omega)
  have hA1 := hA.past hB (.cells #[] 3)
  have HS := Lib.hid hs0; clear hs0
  have HA := Lib.hid hA1; clear hA1 hA
  have hb1 := below_alloc w (.cells #[] 3)
  have HB := Lib.hid hb1; clear hb1
  have hsz : (w.alloc (.cells #[] 3)).heap.size = w.heap.size + 1 := by simp
  have HZ := Lib.hid hsz; clear hsz
  have hw1 : ∀ (j : Nat) (u : Value), (xs.map (Value.int .i64))[j]? = some u → (w.alloc (.cells #[] 3)).cell? ((⟨b, off, none⟩ : Addr).add j) = some u := by
    intro j u hu
    rw [List.getElem?_map] at hu
    cases hy : xs[j]? with
    | none => rw [hy] at hu; cases hu
    | some y =>
      rw [hy] at hu
      obtain rfl : Value.int .i64 y = u := by simpa using hu
      obtain ⟨b', o', he, _, c⟩ := HA.out j y hy
      simp only [Option.some.injEq, Addr.mk.injEq, and_true] at he
      obtain ⟨rfl, rfl⟩ := he
      rw [show (⟨b, off, none⟩ : Addr).add j = ⟨b, off + j, none⟩ by unfold Addr.add; split <;> simp_all]
      exact c
  have ho1 : ∀ u ∈ xs.map (Value.int .i64), u.oneCell' = true := by
    intro u hu
    obtain ⟨y, _, rfl⟩ := List.mem_map.1 hu
    rfl
  have HW := Lib.hid hw1; clear hw1
  have HO := Lib.hid ho1; clear ho1
  have heq := fun w : World => Lib.run_eql_slice_nil (P := Try.prog) w 24 3 (some ⟨b, off, none⟩) xs.length ac 0 0 Try.underlying24
  simp only [Option.isNone_some] at heq
  go_enter Try.func27, Try.ntmps27
  go_wp2_with (at_builtin; refine wpList_append_sep (A := []) rfl (.tmp 5) (.tmp 6) rfl elemInt8 rfl HS.out (Nat.le_trans (Nat.le_succ _) (Nat.le_of_eq HZ.out.symm)) ⟨b, off, none⟩ xs.length ac (xs.map (Value.int .i64)) rfl (by simp) HW.out HO.out h0 (by omega) (by unfold maxLen; omega) ?_)
  intro v' w2 hs hb2
  have HS2 := Lib.hid hs; clear hs
  have HB2 := Lib.hid hb2; clear hb2
  go_wp2
  go_ret
  refine ⟨_, rfl, ?_, HB.out.trans HB2.out⟩
  have := HS2.out
  simpa [Ent.ints] using this

/-- .. of an empty one. -/
theorem clone_nil (ao : Option Addr) (ac : Nat) (w : World) :
    Calls Try.prog 27 #[.slice ao 0 ac] w fun e w' => ∃ v, e = .returned v ∧ Sep w.heap.size w' [Ent.ints 3 v []] ∧ Below w.heap.size w w' := by
  cases ao with
  | none =>
    have heq := fun w : World => Lib.run_eql_slice_nil (P := Try.prog) w 24 3 none 0 ac 0 0 Try.underlying24
    simp only [Option.isNone_none] at heq
    have HN := Lib.hid ((Sep.nil w.heap.size w).intsNil 3)
    go_enter Try.func27, Try.ntmps27
    go_wp2
    go_ret
    exact ⟨_, rfl, HN.out, Below.refl _ _⟩
  | some a =>
    have heq := fun w : World => Lib.run_eql_slice_nil (P := Try.prog) w 24 3 (some a) 0 ac 0 0 Try.underlying24
    simp only [Option.isNone_some] at heq
    have hs0 := Sep.rowMade (Sep.nil w.heap.size w) (Nat.le_refl _) #[] 0 1 3 rfl (by unfold maxLen; omega)
    have HS := Lib.hid hs0; clear hs0
    have hb1 := below_alloc w (.cells #[] 3)
    have HB := Lib.hid hb1; clear hb1
    go_enter Try.func27, Try.ntmps27
    go_wp2
    go_ret
    exact ⟨_, rfl, HS.out, HB.out⟩
end Go.Proofs.Ytpfpaheafpibiaa
