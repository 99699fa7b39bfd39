/- Small bridges between how an argument reads and what a walk asks of it. -/
import Derived.Test.YtbcfcjecobihnaaDoorBase
import Derived.ProofKit
import Derived.OpenShut
import Derived.Deep.Slices
import Derived.Deep.Strs
namespace Go.Proofs.YtbcfcjecobihnaaDoor
open Go.RowKit

theorem addr_at {w : World} {x : Addr} {zs : List Int} (hcell : ∀ i, i < zs.length → w.cell? (x.add i) = some (.int .i64 (zs.getD i 0))) {j : Nat} {y : Int} (hj : zs[j]? = some y) :
    ∃ b off, x = ⟨b, off, none⟩ ∧ b < w.heap.size ∧ w.cell? ⟨b, off + j, none⟩ = some (.int .i64 y) := by
  have hjl : j < zs.length := (List.getElem?_eq_some_iff.1 hj).1
  obtain ⟨b, off, spot⟩ := x
  have hc := hcell 0 (by omega)
  have hspot : spot = none := by simpa [Addr.add] using World.cell?_spot hc
  subst hspot
  have hcj := hcell j hjl
  have hadd : (⟨b, off, none⟩ : Addr).add j = ⟨b, off + j, none⟩ := by unfold Addr.add; split <;> simp_all
  rw [hadd, List.getD_eq_getElem?_getD, hj, Option.getD_some] at hcj
  exact ⟨b, off, rfl, World.block_lt_of_cell? w _ hcj, hcj⟩

theorem ints_of_open {H : Type} {w : World} {a : Option Addr} {n c base : Nat} {spare : Nat → Bool} {x : DataW H × List MemPlace}
    (h : ((Value.slice a n c).cells.toList = [.slice none 0 0] ∧ x = (.nil, [])) ∨
      ∃ (a' : Addr) (len cap : Nat) (zs : List Int), (Value.slice a n c).cells.toList = [.slice (some a') len cap] ∧ base ≤ a'.block ∧ len ≤ cap ∧ cap ≤ maxLen ∧ zs.length = (if spare a'.block then cap else len) ∧
        x = (.slice (ChangeShapes.lits .i64 (zs.take len)) (ChangeShapes.lits .i64 (zs.drop len)), MemPlace.row a' zs.length) ∧
        (∀ i, i < zs.length → w.cell? (a'.add i) = some (.int .i64 (zs.getD i 0))) ∧ (∀ n ∈ zs, (Lit.int .i64 n).wf = true)) :
    ∃ xs : List Int, n = xs.length ∧ IntSl w.heap.size w a xs ∧ xs.length ≤ c ∧ c ≤ maxLen ∧ (∀ x ∈ xs, -9223372036854775808 ≤ x ∧ x ≤ 9223372036854775807) := by
  rcases h with ⟨hcs, _⟩ | ⟨a', len, cap, zs, hcs, _, hl, hm, hz, _, hcell, hwz⟩
  · simp [Value.cells] at hcs
    obtain ⟨rfl, rfl, rfl⟩ := hcs
    exact ⟨[], rfl, IntSl.nil _ _ _, by simp, by simp [maxLen], by simp⟩
  · simp [Value.cells] at hcs
    obtain ⟨rfl, rfl, rfl⟩ := hcs
    have hlz : n ≤ zs.length := by rw [hz]; split <;> omega
    refine ⟨zs.take n, by simp; omega, ?_, by simp; omega, hm, fun x hx => Go.bounds_i64 (hwz x (List.mem_of_mem_take hx))⟩
    intro j y hy
    rw [List.getElem?_take] at hy
    split at hy
    · obtain ⟨b, off, rfl, hb, hc⟩ := addr_at hcell hy
      exact ⟨b, off, rfl, hb, hc⟩
    · cases hy

theorem ints_datum {H : Type} {w : World} {a : Option Addr} {n c base : Nat} {spare : Nat → Bool} {x : DataW H × List MemPlace}
    (h : ((Value.slice a n c).cells.toList = [.slice none 0 0] ∧ x = (.nil, [])) ∨
      ∃ (a' : Addr) (len cap : Nat) (zs : List Int), (Value.slice a n c).cells.toList = [.slice (some a') len cap] ∧ base ≤ a'.block ∧ len ≤ cap ∧ cap ≤ maxLen ∧ zs.length = (if spare a'.block then cap else len) ∧
        x = (.slice (ChangeShapes.lits .i64 (zs.take len)) (ChangeShapes.lits .i64 (zs.drop len)), MemPlace.row a' zs.length) ∧
        (∀ i, i < zs.length → w.cell? (a'.add i) = some (.int .i64 (zs.getD i 0))) ∧ (∀ n ∈ zs, (Lit.int .i64 n).wf = true)) :
    n = 0 ∨ ∃ E S, x.1 = .slice E S ∧ n = E.length := by
  rcases h with ⟨hcs, _⟩ | ⟨a', len, cap, zs, hcs, _, hl, hm, hz, hx, hcell, hwz⟩
  · simp [Value.cells] at hcs
    exact .inl hcs.2.1
  · simp [Value.cells] at hcs
    obtain ⟨rfl, rfl, rfl⟩ := hcs
    have hlz : n ≤ zs.length := by rw [hz]; split <;> omega
    exact .inr ⟨_, _, by rw [hx], by simp [ChangeShapes.lits]; omega⟩

/-- A slice that came in, its elements of whatever type: each element's cells. -/
theorem rows_of_open {H : Type} {enc : TypeId × Value → H} {P : Program} {w : World} {base fuel : Nat} {spare : Nat → Bool} {held : Bool} {t e : TypeId} {a : Option Addr} {n c size : Nat} {x : DataW H × List MemPlace}
    {α : Type} (cells : α → List Value) (good : α → Prop) (ht : P.underlying t = some (.slice e)) (hsz : P.cellsOf e = size) (hpos : 0 < size)
    (hdec : ∀ (m : Nat) (r : List Value) (y : DataW H × List MemPlace), DataW.trod enc P w base spare held m e r = some y → ∃ x : α, r = cells x ∧ good x)
    (hf : DataW.trod enc P w base spare held fuel t (Value.slice a n c).cells.toList = some x) :
    ∃ xs : List α, n = xs.length ∧ RowSl w.heap.size w a size (xs.map cells) ∧ xs.length ≤ c ∧ c ≤ maxLen ∧ ∀ x ∈ xs, good x := by
  rcases Deep.open_slice ht hf with ⟨hcs, _⟩ | ⟨a', len, cap, m, k, D, Pl, hcs, _, hl, hm, hmm, _, hx⟩
  · simp [Value.cells] at hcs
    obtain ⟨rfl, rfl, rfl⟩ := hcs
    exact ⟨[], rfl, by intro j cs hj; simp at hj, by simp, by simp [maxLen], by simp⟩
  · simp [Value.cells] at hcs
    obtain ⟨rfl, rfl, rfl⟩ := hcs
    have hnm : n ≤ m := by rw [hmm]; split <;> omega
    have each : ∀ i, i < n → ∃ x : α, good x ∧ ∀ (u : Nat) (v : Value), (cells x)[u]? = some v → w.cell? ((a'.add (i * size)).add u) = some v := by
      intro i hi
      obtain ⟨cs', h1, h2⟩ := hx i (by omega)
      obtain ⟨x, rfl, hg⟩ := hdec k cs' _ h2
      obtain ⟨_, hlen, hc⟩ := World.cells?_some h1
      refine ⟨x, hg, fun u v hv => ?_⟩
      have hu : u < (cells x).length := (List.getElem?_eq_some_iff.1 hv).1
      rw [← hsz, hc u (by rw [← hlen]; exact hu)]
      exact hv
    have lens : ∀ i, i < n → ∃ cs', w.cells? base (a'.add (i * size)) size = some cs' ∧ cs'.length = size := by
      intro i hi
      obtain ⟨cs', h1, _⟩ := hx i (by omega)
      rw [hsz] at h1
      exact ⟨cs', h1, (World.cells?_some h1).2.1⟩
    have spot : 0 < n → ∃ b off, a' = ⟨b, off, none⟩ ∧ b < w.heap.size := by
      intro hn
      obtain ⟨cs', h1, h2⟩ := lens 0 hn
      obtain ⟨_, _, hc⟩ := World.cells?_some h1
      obtain ⟨b, off, sp⟩ := a'
      have h0 := hc 0 hpos
      have hv : cs'[0]? = some cs'[0] := List.getElem?_eq_getElem (by omega)
      rw [hv] at h0
      have e0 : (({ block := b, off := off, spot := sp } : Addr).add (0 * size)).add 0 = { block := b, off := off, spot := sp } := by simp [Addr.add]
      rw [e0] at h0
      have hsp : sp = none := by simpa using World.cell?_spot h0
      subst hsp
      exact ⟨b, off, rfl, World.block_lt_of_cell? w _ h0⟩
    have build : ∀ q, q ≤ n → ∃ xs : List α, xs.length = q ∧ (∀ x ∈ xs, good x) ∧ ∀ (i : Nat) (x : α), xs[i]? = some x → ∀ (u : Nat) (v : Value), (cells x)[u]? = some v → w.cell? ((a'.add (i * size)).add u) = some v := by
      intro q
      induction q with
      | zero => intro _; exact ⟨[], rfl, by simp, by intro i x h; simp at h⟩
      | succ q ih =>
        intro hq
        obtain ⟨xs, h1, h2, h3⟩ := ih (by omega)
        obtain ⟨x, hg, hc⟩ := each q (by omega)
        refine ⟨xs ++ [x], by simp [h1], by intro y hy; rcases List.mem_append.1 hy with hy | hy; exact h2 y hy; simp at hy; subst hy; exact hg, ?_⟩
        intro i y hy
        by_cases hi : i < xs.length
        · rw [List.getElem?_append_left hi] at hy; exact h3 i y hy
        · have hil := (List.getElem?_eq_some_iff.1 hy).1
          simp at hil
          obtain rfl : i = xs.length := by omega
          rw [List.getElem?_append_right (Nat.le_refl _)] at hy
          simp at hy; subst hy
          rw [h1]; exact hc
    obtain ⟨xs, h1, h2, h3⟩ := build n (Nat.le_refl _)
    refine ⟨xs, h1.symm, ?_, by omega, hm, h2⟩
    intro j cs hj
    have hjn : j < n := by have := (List.getElem?_eq_some_iff.1 hj).1; simp at this; omega
    obtain ⟨b, off, rfl, hb⟩ := spot (by omega)
    refine ⟨b, off, rfl, hb, fun u v hv => ?_⟩
    rw [List.getElem?_map] at hj
    cases hx : xs[j]? with
    | none => simp [hx] at hj
    | some x =>
      simp [hx] at hj
      subst hj
      have := h3 j x hx u v hv
      have e0 : (({ block := b, off := off, spot := none } : Addr).add (j * size)).add u = { block := b, off := off + j * size + u, spot := none } := by
        unfold Addr.add
        split <;> split <;> simp_all
      rwa [e0] at this
end Go.Proofs.YtbcfcjecobihnaaDoor
