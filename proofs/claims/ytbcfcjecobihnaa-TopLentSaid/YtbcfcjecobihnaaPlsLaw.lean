/- Places that came in: their cells. -/
import Derived.Test.YtbcfcjecobihnaaRows
import Derived.Test.YtbcfcjecobihnaaLawKit
import Derived.ChangeSlices
import Derived.ChangeSame
namespace Go.Proofs.Ytbcfcjecobihnaa
open Go.RowKit Go.ChangeShapes Go.WideShapes Go.ChangeAt

theorem cellsPl : Try.prog.cellsOf 40 = 2 := by kernel_rfl
theorem cellsIntP : Try.prog.cellsOf 3 = 1 := by kernel_rfl
def plsC (p : Int × Int) : List Value := [.int .i64 p.1, .int .i64 p.2]
theorem plsC_len (p : Int × Int) : (plsC p).length = 2 := rfl
def PlGood (p : Int × Int) : Prop := (-9223372036854775808 ≤ p.1 ∧ p.1 ≤ 9223372036854775807) ∧ -9223372036854775808 ≤ p.2 ∧ p.2 ≤ 9223372036854775807
set_option maxRecDepth 100000 in
theorem pl_dec {H : Type} {enc : TypeId × Value → H} {w : World} {base m : Nat} {spare : Nat → Bool} {held : Bool} {r : List Value} {y : DataW H × List MemPlace}
    (h : DataW.trod enc Try.prog w base spare held m 40 r = some y) : ∃ x : Int × Int, r = plsC x ∧ PlGood x := by
  obtain ⟨y0, y1, n, _, hl, h0, h1⟩ := Go.ChangeShapes.trod_struct2 Try.underlying40 h
  rw [cellsPl] at hl
  match r, hl with
  | [v0, v1], _ =>
    simp only [cellsIntP, List.drop_zero, List.drop_succ_cons, List.take_succ_cons, List.take_zero] at h0 h1
    obtain ⟨a, e0, _, w0⟩ := DataW.trod_int Try.underlying3 h0
    obtain ⟨b, e1, _, w1⟩ := DataW.trod_int Try.underlying3 h1
    simp only [List.cons.injEq, and_true] at e0 e1
    subst e0 e1
    exact ⟨(a, b), rfl, bounds_i64 w0, bounds_i64 w1⟩
end Go.Proofs.Ytbcfcjecobihnaa
