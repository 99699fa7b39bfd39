/- How a slice of slices of ints lies in memory. -/
import Derived.Test.YtbcfcjecobihnaaDoorRows
import Derived.Test.YtbcfcjecobihnaaDoorBase
namespace Go.Proofs.YtbcfcjecobihnaaDoor
open Go.RowKit

/-- A step as it lies in memory. -/
abbrev Stp := Option Addr × Nat × List Int
def stpC (r : Stp) : List Value := [.slice r.1 r.2.2.length r.2.1]
def StpsOk (B : Nat) (w : World) (rs : List Stp) : Prop := ∀ r ∈ rs, IntSl B w r.1 r.2.2 ∧ r.2.2.length ≤ r.2.1 ∧ r.2.1 ≤ maxLen
theorem StpsOk.below {B : Nat} {w w' : World} {rs : List Stp} (h : StpsOk B w rs) (hk : Below B w w') : StpsOk B w' rs := fun r hr => ⟨(h r hr).1.below hk, (h r hr).2⟩

/-- An error of api's by its number; 0: none. -/
def errV (c : Int) : Value := if c = 0 then .nilIface else .iface 63 (.int .i64 c)
theorem errV_zero : errV 0 = .nilIface := rfl
theorem errV_not {c : Int} (h : ¬ c = 0) : errV c = .iface 63 (.int .i64 c) := if_neg h

def rowsOf (rs : List Stp) : List (List Int) := rs.map (·.2.2)
theorem rowsOf_len (rs : List Stp) : (rowsOf rs).length = rs.length := by simp [rowsOf]
theorem rowsOf_get {rs : List Stp} {k : Nat} {r : Stp} (h : rs[k]? = some r) : (rowsOf rs)[k]? = some r.2.2 := by simp [rowsOf, h]

/-- A row of rows, read. -/
theorem rows_at {B : Nat} {w : World} {ao : Option Addr} {rs : List Stp} (hA : RowSl B w ao 1 (rs.map stpC)) {k : Nat} {r : Stp} (h : rs[k]? = some r) :
    ∃ b off, ao = some ⟨b, off, none⟩ ∧ b < B ∧ w.cell? ⟨b, off + k, none⟩ = some (.slice r.1 r.2.2.length r.2.1) := by
  obtain ⟨b, off, rfl, hb, hc⟩ := hA k (stpC r) (by rw [List.getElem?_map, h]; rfl)
  have c0 := hc 0 _ rfl
  simp only [Nat.mul_one, Nat.add_zero] at c0
  exact ⟨b, off, rfl, hb, c0⟩
theorem rowSl_new (w : World) (g : Nat) (hg : g = w.heap.size) (cs : Array Value) (e : TypeId) (rs : List Stp) (h : cs.toList = rs.map fun r => Value.slice r.1 r.2.2.length r.2.1) : RowSl (g + 1) (w.alloc (.cells cs e)) (some ⟨g, 0, none⟩) 1 (rs.map stpC) := by
  subst hg
  intro j row hj
  rw [List.getElem?_map] at hj
  cases hr : rs[j]? with
  | none => rw [hr] at hj; cases hj
  | some r =>
    rw [hr] at hj
    obtain rfl : stpC r = row := by simpa using hj
    refine ⟨w.heap.size, 0, rfl, by omega, ?_⟩
    intro i v hv
    match i, hv with
    | 0, hv =>
      obtain rfl : Value.slice r.1 r.2.2.length r.2.1 = v := by simpa [stpC] using hv
      have h1 : cs.toList[j]? = some (.slice r.1 r.2.2.length r.2.1) := by rw [h, List.getElem?_map, hr]; rfl
      have h2 : (w.alloc (.cells cs e)).heap[w.heap.size]? = some (.cells cs e) := heap_alloc_new w _
      rw [show 0 + j * 1 + 0 = j by omega]
      rw [cell_of_row _ _ j cs e (0, 0) h2]
      simpa using h1
    | i + 1, hv => simp [stpC] at hv
end Go.Proofs.YtbcfcjecobihnaaDoor
