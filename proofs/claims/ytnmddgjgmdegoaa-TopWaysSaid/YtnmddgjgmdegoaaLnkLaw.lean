/- A link that came in: its cells. -/
import Derived.Test.YtnmddgjgmdegoaaRows
import Derived.Test.YtnmddgjgmdegoaaLnk
import Derived.Test.YtnmddgjgmdegoaaLawKit
namespace Go.Proofs.Ytnmddgjgmdegoaa
open Go.RowKit Go.ChangeShapes Go.WideShapes Go.ChangeAt

theorem cellsLink : Try.prog.cellsOf 71 = 3 := by kernel_rfl
theorem cellsIntL : Try.prog.cellsOf 3 = 1 := by kernel_rfl

set_option maxRecDepth 100000 in
theorem lnk_dec {H : Type} {enc : TypeId × Value → H} {w : World} {base m : Nat} {spare : Nat → Bool} {held : Bool} {r : List Value} {y : DataW H × List MemPlace}
    (h : DataW.trod enc Try.prog w base spare held m 71 r = some y) : ∃ x : Lnk, r = lnkC x ∧ LnkGood x := by
  obtain ⟨y0, y1, y2, n, _, hl, h0, h1, h2⟩ := Deep.trod_struct3 Try.underlying71 h
  rw [cellsLink] at hl
  match r, hl with
  | [v0, v1, v2], _ =>
    simp only [cellsIntL, List.drop_zero, List.drop_succ_cons, List.take_succ_cons, List.take_zero] at h0 h1 h2
    obtain ⟨a, e0, _, w0⟩ := DataW.trod_int Try.underlying3 h0
    obtain ⟨b, e1, _, w1⟩ := DataW.trod_int Try.underlying3 h1
    obtain ⟨c, e2, _, w2⟩ := DataW.trod_int Try.underlying3 h2
    simp only [List.cons.injEq, and_true] at e0 e1 e2
    subst e0 e1 e2
    exact ⟨(a, b, c), rfl, bounds_i64 w0, bounds_i64 w1, bounds_i64 w2⟩
set_option maxRecDepth 100000 in
theorem link_open {H : Type} {enc : TypeId × Value → H} {W w : World} {r : Reach} {b0 base : Nat} {spare : Nat → Bool} {held : Bool} {v : Value} {d : DataW H} {p : List MemPlace}
    (hv : Value.okWide Try.prog W r b0 71 v) (h : DataW.Trod enc Try.prog w base spare held 71 v d p) : ∃ a b c : Int, v = .agg #[.int .i64 a, .int .i64 b, .int .i64 c] ∧ LnkGood (a, b, c) := by
  obtain ⟨cs, rfl, hsz⟩ := okWide_struct Try.underlying71 hv
  obtain ⟨fuel, hf⟩ := h
  obtain ⟨⟨a, b, c⟩, he, hg⟩ := lnk_dec hf
  have hcs : cs = #[.int .i64 a, .int .i64 b, .int .i64 c] := by
    have : cs.toList = [.int .i64 a, .int .i64 b, .int .i64 c] := by simpa [Value.cells, lnkC] using he
    cases cs; simpa using this
  exact ⟨a, b, c, by rw [hcs], hg⟩
end Go.Proofs.Ytnmddgjgmdegoaa
