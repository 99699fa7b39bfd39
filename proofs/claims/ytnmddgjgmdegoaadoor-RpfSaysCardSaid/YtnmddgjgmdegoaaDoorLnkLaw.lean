/- A link that came in: its cells. -/
import Derived.Test.YtnmddgjgmdegoaaDoorRows
import Derived.Test.YtnmddgjgmdegoaaDoorLnk
import Derived.Test.YtnmddgjgmdegoaaDoorLawKit
namespace Go.Proofs.YtnmddgjgmdegoaaDoor
open Go.RowKit Go.ChangeShapes Go.WideShapes Go.ChangeAt

theorem cellsLink : Tryd.prog.cellsOf 77 = 3 := by kernel_rfl
theorem cellsIntL : Tryd.prog.cellsOf 3 = 1 := by kernel_rfl

set_option maxRecDepth 100000 in
theorem lnk_dec {H : Type} {enc : TypeId × Value → H} {w : World} {base m : Nat} {spare : Nat → Bool} {held : Bool} {r : List Value} {y : DataW H × List MemPlace}
    (h : DataW.trod enc Tryd.prog w base spare held m 77 r = some y) : ∃ x : Lnk, r = lnkC x ∧ LnkGood x := by
  obtain ⟨y0, y1, y2, n, _, hl, h0, h1, h2⟩ := Deep.trod_struct3 Tryd.underlying77 h
  rw [cellsLink] at hl
  match r, hl with
  | [v0, v1, v2], _ =>
    simp only [cellsIntL, List.drop_zero, List.drop_succ_cons, List.take_succ_cons, List.take_zero] at h0 h1 h2
    obtain ⟨a, e0, _, w0⟩ := DataW.trod_int Tryd.underlying3 h0
    obtain ⟨b, e1, _, w1⟩ := DataW.trod_int Tryd.underlying3 h1
    obtain ⟨c, e2, _, w2⟩ := DataW.trod_int Tryd.underlying3 h2
    simp only [List.cons.injEq, and_true] at e0 e1 e2
    subst e0 e1 e2
    exact ⟨(a, b, c), rfl, bounds_i64 w0, bounds_i64 w1, bounds_i64 w2⟩
set_option maxRecDepth 100000 in
theorem link_open {H : Type} {enc : TypeId × Value → H} {W w : World} {r : Reach} {b0 base : Nat} {spare : Nat → Bool} {held : Bool} {v : Value} {d : DataW H} {p : List MemPlace}
    (hv : Value.okWide Tryd.prog W r b0 77 v) (h : DataW.Trod enc Tryd.prog w base spare held 77 v d p) : ∃ a b c : Int, v = .agg #[.int .i64 a, .int .i64 b, .int .i64 c] ∧ LnkGood (a, b, c) := by
  obtain ⟨cs, rfl, hsz⟩ := okWide_struct Tryd.underlying77 hv
  obtain ⟨fuel, hf⟩ := h
  obtain ⟨⟨a, b, c⟩, he, hg⟩ := lnk_dec hf
  have hcs : cs = #[.int .i64 a, .int .i64 b, .int .i64 c] := by
    have : cs.toList = [.int .i64 a, .int .i64 b, .int .i64 c] := by simpa [Value.cells, lnkC] using he
    cases cs; simpa using this
  exact ⟨a, b, c, by rw [hcs], hg⟩
end Go.Proofs.YtnmddgjgmdegoaaDoor
