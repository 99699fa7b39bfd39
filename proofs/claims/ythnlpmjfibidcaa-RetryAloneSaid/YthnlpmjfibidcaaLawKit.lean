/- Small bridges between how an argument reads and what a walk asks of it. -/
import Derived.Test.YthnlpmjfibidcaaBase
import Derived.ProofKit
import Derived.OpenShut
namespace Go.Proofs.Ythnlpmjfibidcaa
open Go.RowKit

theorem addr_at {w : World} {x : Addr} {zs : List Int} (hcell : ∀ i, i < zs.length → w.cell? (x.add i) = some (.int .i64 (zs.getD i 0))) {j : Nat} {y : Int} (hj : zs[j]? = some y) :
    ∃ b off, x = ⟨b, off, none⟩ ∧ b < w.heap.size ∧ w.cell? ⟨b, off + j, none⟩ = some (.int .i64 y) := by
  have hjl : j < zs.length := (List.getElem?_eq_some_iff.1 hj).1
  obtain ⟨b, off, spot⟩ := x
  have hc := hcell 0 (by omega)
  have hspot : spot = none := by simpa [Addr.add] using World.cell?_spot hc
  subst hspot
  have hcj := hcell j hjl
  have hadd : (⟨b, off, none⟩ : Addr).add j = ⟨b, off + j, none⟩ := by unfold Addr.add; split <;> simp_all
  rw [hadd, List.getD_eq_getElem?_getD, hj, Option.getD_some] at hcj
  exact ⟨b, off, rfl, World.block_lt_of_cell? w _ hcj, hcj⟩

theorem ints_of_open {H : Type} {w : World} {a : Option Addr} {n c base : Nat} {spare : Nat → Bool} {x : DataW H × List MemPlace}
    (h : ((Value.slice a n c).cells.toList = [.slice none 0 0] ∧ x = (.nil, [])) ∨
      ∃ (a' : Addr) (len cap : Nat) (zs : List Int), (Value.slice a n c).cells.toList = [.slice (some a') len cap] ∧ base ≤ a'.block ∧ len ≤ cap ∧ cap ≤ maxLen ∧ zs.length = (if spare a'.block then cap else len) ∧
        x = (.slice (ChangeShapes.lits .i64 (zs.take len)) (ChangeShapes.lits .i64 (zs.drop len)), MemPlace.row a' zs.length) ∧
        (∀ i, i < zs.length → w.cell? (a'.add i) = some (.int .i64 (zs.getD i 0))) ∧ (∀ n ∈ zs, (Lit.int .i64 n).wf = true)) :
    ∃ xs : List Int, n = xs.length ∧ IntSl w.heap.size w a xs ∧ xs.length ≤ c ∧ c ≤ maxLen ∧ (∀ x ∈ xs, -9223372036854775808 ≤ x ∧ x ≤ 9223372036854775807) := by
  rcases h with ⟨hcs, _⟩ | ⟨a', len, cap, zs, hcs, _, hl, hm, hz, _, hcell, hwz⟩
  · simp [Value.cells] at hcs
    obtain ⟨rfl, rfl, rfl⟩ := hcs
    exact ⟨[], rfl, IntSl.nil _ _ _, by simp, by simp [maxLen], by simp⟩
  · simp [Value.cells] at hcs
    obtain ⟨rfl, rfl, rfl⟩ := hcs
    have hlz : n ≤ zs.length := by rw [hz]; split <;> omega
    refine ⟨zs.take n, by simp; omega, ?_, by simp; omega, hm, fun x hx => Go.bounds_i64 (hwz x (List.mem_of_mem_take hx))⟩
    intro j y hy
    rw [List.getElem?_take] at hy
    split at hy
    · obtain ⟨b, off, rfl, hb, hc⟩ := addr_at hcell hy
      exact ⟨b, off, rfl, hb, hc⟩
    · cases hy
end Go.Proofs.Ythnlpmjfibidcaa
