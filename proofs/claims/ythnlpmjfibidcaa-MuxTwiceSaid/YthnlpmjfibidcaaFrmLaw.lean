/- A frame that came in: its cells. -/
import Derived.Test.YthnlpmjfibidcaaRows
import Derived.Test.YthnlpmjfibidcaaFrm
import Derived.Test.YthnlpmjfibidcaaLawKit
namespace Go.Proofs.Ythnlpmjfibidcaa
open Go.RowKit

theorem cellsFrame : Try.prog.cellsOf 27 = 3 := by kernel_rfl
theorem cellsInt : Try.prog.cellsOf 3 = 1 := by kernel_rfl
theorem cellsString : Try.prog.cellsOf 9 = 1 := by kernel_rfl

theorem frm_dec {H : Type} {enc : TypeId × Value → H} {w : World} {base m : Nat} {spare : Nat → Bool} {held : Bool} {r : List Value} {y : DataW H × List MemPlace}
    (h : DataW.trod enc Try.prog w base spare held m 27 r = some y) : ∃ x : Frm, r = frmCells x ∧ FrmGood x := by
  obtain ⟨y0, y1, y2, n, _, hl, h0, h1, h2⟩ := Deep.trod_struct3 Try.underlying27 h
  rw [cellsFrame] at hl
  match r, hl with
  | [v0, v1, v2], _ =>
    simp only [cellsInt, cellsString, List.drop_zero, List.drop_succ_cons, List.take_succ_cons, List.take_zero] at h0 h1 h2
    obtain ⟨a, e0, _, w0⟩ := DataW.trod_int Try.underlying3 h0
    obtain ⟨b, e1, _, w1⟩ := DataW.trod_int Try.underlying3 h1
    obtain ⟨s, e2, _, w2⟩ := DataW.trod_string Try.underlying9 h2
    simp only [List.cons.injEq, and_true] at e0 e1 e2
    subst e0 e1 e2
    exact ⟨(a, b, s), rfl, bounds_i64 w0, bounds_i64 w1, w2⟩
end Go.Proofs.Ythnlpmjfibidcaa
