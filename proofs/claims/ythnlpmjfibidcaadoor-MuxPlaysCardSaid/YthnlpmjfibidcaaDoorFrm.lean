/- Frames in a slice that is read. -/
import Derived.Test.YthnlpmjfibidcaaDoorBase
namespace Go.Proofs.YthnlpmjfibidcaaDoor
open Go.RowKit

abbrev Frm := Int × Int × ByteArray
def frmCells (x : Frm) : List Value := [.int .i64 x.1, .int .i64 x.2.1, .string x.2.2]

theorem RowSl.frm {B : Nat} {w : World} {ao : Option Addr} {fs : List Frm} (h : RowSl B w ao 3 (fs.map frmCells)) {k : Nat} {x : Frm} (hx : fs[k]? = some x) :
    ∃ b off, ao = some ⟨b, off, none⟩ ∧ b < B ∧ w.cell? ⟨b, off + k * 3, none⟩ = some (.int .i64 x.1) ∧ w.cell? ⟨b, off + k * 3 + 1, none⟩ = some (.int .i64 x.2.1) ∧ w.cell? ⟨b, off + k * 3 + 2, none⟩ = some (.string x.2.2) := by
  obtain ⟨b, off, rfl, hb, hc⟩ := h k (frmCells x) (by rw [List.getElem?_map, hx]; rfl)
  exact ⟨b, off, rfl, hb, hc 0 _ rfl, hc 1 _ rfl, hc 2 _ rfl⟩

def FrmGood (x : Frm) : Prop := (-9223372036854775808 ≤ x.1 ∧ x.1 ≤ 9223372036854775807) ∧ (-9223372036854775808 ≤ x.2.1 ∧ x.2.1 ≤ 9223372036854775807) ∧ x.2.2.size ≤ 9223372036854775807
end Go.Proofs.YthnlpmjfibidcaaDoor
