/- A frame that came in: its cells. -/
import Derived.Test.YthnlpmjfibidcaaDoorRows
import Derived.Test.YthnlpmjfibidcaaDoorFrm
import Derived.Test.YthnlpmjfibidcaaDoorLawKit
namespace Go.Proofs.YthnlpmjfibidcaaDoor
open Go.RowKit Go.ChangeShapes Go.WideShapes Go.ChangeAt

theorem cellsFrame : Tryd.prog.cellsOf 24 = 3 := by kernel_rfl
theorem cellsInt : Tryd.prog.cellsOf 3 = 1 := by kernel_rfl
theorem cellsString : Tryd.prog.cellsOf 9 = 1 := by kernel_rfl

set_option maxRecDepth 100000 in
theorem frm_dec {H : Type} {enc : TypeId × Value → H} {w : World} {base m : Nat} {spare : Nat → Bool} {held : Bool} {r : List Value} {y : DataW H × List MemPlace}
    (h : DataW.trod enc Tryd.prog w base spare held m 24 r = some y) : ∃ x : Frm, r = frmCells x ∧ FrmGood x := by
  obtain ⟨y0, y1, y2, n, _, hl, h0, h1, h2⟩ := Deep.trod_struct3 Tryd.underlying24 h
  rw [cellsFrame] at hl
  match r, hl with
  | [v0, v1, v2], _ =>
    simp only [cellsInt, cellsString, List.drop_zero, List.drop_succ_cons, List.take_succ_cons, List.take_zero] at h0 h1 h2
    obtain ⟨a, e0, _, w0⟩ := DataW.trod_int Tryd.underlying3 h0
    obtain ⟨b, e1, _, w1⟩ := DataW.trod_int Tryd.underlying3 h1
    obtain ⟨s, e2, _, w2⟩ := DataW.trod_string Tryd.underlying9 h2
    simp only [List.cons.injEq, and_true] at e0 e1 e2
    subst e0 e1 e2
    exact ⟨(a, b, s), rfl, bounds_i64 w0, bounds_i64 w1, w2⟩
set_option maxRecDepth 100000 in
theorem frame_open {H : Type} {enc : TypeId × Value → H} {W w : World} {r : Reach} {b0 base : Nat} {spare : Nat → Bool} {held : Bool} {v : Value} {d : DataW H} {p : List MemPlace}
    (hv : Value.okWide Tryd.prog W r b0 24 v) (h : DataW.Trod enc Tryd.prog w base spare held 24 v d p) : ∃ (a b : Int) (c : ByteArray), v = .agg #[.int .i64 a, .int .i64 b, .string c] ∧ FrmGood (a, b, c) := by
  obtain ⟨cs, rfl, hsz⟩ := okWide_struct Tryd.underlying24 hv
  obtain ⟨fuel, hf⟩ := h
  obtain ⟨⟨a, b, c⟩, he, hg⟩ := frm_dec hf
  have hcs : cs = #[.int .i64 a, .int .i64 b, .string c] := by
    have : cs.toList = [.int .i64 a, .int .i64 b, .string c] := by simpa [Value.cells, frmCells] using he
    cases cs; simpa using this
  exact ⟨a, b, c, by rw [hcs], hg⟩
end Go.Proofs.YthnlpmjfibidcaaDoor
