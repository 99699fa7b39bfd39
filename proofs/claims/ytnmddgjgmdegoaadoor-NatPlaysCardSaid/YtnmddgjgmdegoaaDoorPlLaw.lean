/- A place that came in: its cells; rows of ints with their bounds. -/
import Derived.Test.YtnmddgjgmdegoaaDoorRows
import Derived.Test.YtnmddgjgmdegoaaDoorLawKit
import Derived.Test.YtnmddgjgmdegoaaDoorStp
import Derived.ChangeSlices
import Derived.ChangeSame
namespace Go.Proofs.YtnmddgjgmdegoaaDoor
open Go.RowKit Go.ChangeShapes Go.WideShapes Go.ChangeAt

theorem cellsPl : Tryd.prog.cellsOf 24 = 2 := by kernel_rfl
theorem cellsIntP : Tryd.prog.cellsOf 3 = 1 := by kernel_rfl
def PlGood (p : Int × Int) : Prop := (-9223372036854775808 ≤ p.1 ∧ p.1 ≤ 9223372036854775807) ∧ -9223372036854775808 ≤ p.2 ∧ p.2 ≤ 9223372036854775807

set_option maxRecDepth 100000 in
theorem place_open {H : Type} {enc : TypeId × Value → H} {W w : World} {r : Reach} {b0 base : Nat} {spare : Nat → Bool} {held : Bool} {v : Value} {d : DataW H} {p : List MemPlace}
    (hv : Value.okWide Tryd.prog W r b0 24 v) (h : DataW.Trod enc Tryd.prog w base spare held 24 v d p) : ∃ a b : Int, v = .agg #[.int .i64 a, .int .i64 b] ∧ PlGood (a, b) := by
  obtain ⟨cs, rfl, hsz⟩ := okWide_struct Tryd.underlying24 hv
  obtain ⟨fuel, hf⟩ := h
  obtain ⟨y0, y1, n, _, hl, h0, h1⟩ := Go.ChangeShapes.trod_struct2 Tryd.underlying24 hf
  rw [cellsPl] at hl
  have key : ∀ l : List Value, l = (Value.agg cs).cells.toList → l.length = 2 → DataW.trod enc Tryd.prog w base spare held n 3 ((l.drop 0).take (Tryd.prog.cellsOf 3)) = some y0 → DataW.trod enc Tryd.prog w base spare held n 3 ((l.drop 1).take (Tryd.prog.cellsOf 3)) = some y1 →
      ∃ a b : Int, l = [.int .i64 a, .int .i64 b] ∧ PlGood (a, b) := by
    intro l _ hl h0 h1
    match l, hl with
    | [v0, v1], _ =>
      simp only [cellsIntP, List.drop_zero, List.drop_succ_cons, List.take_succ_cons, List.take_zero] at h0 h1
      obtain ⟨a, e0, _, w0⟩ := DataW.trod_int Tryd.underlying3 h0
      obtain ⟨b, e1, _, w1⟩ := DataW.trod_int Tryd.underlying3 h1
      simp only [List.cons.injEq, and_true] at e0 e1
      subst e0 e1
      exact ⟨a, b, rfl, bounds_i64 w0, bounds_i64 w1⟩
  obtain ⟨a, b, he, hg⟩ := key _ rfl hl h0 h1
  have hcs : cs = #[.int .i64 a, .int .i64 b] := by
    have : cs.toList = [.int .i64 a, .int .i64 b] := by simpa [Value.cells] using he
    cases cs; simpa using this
  exact ⟨a, b, by rw [hcs], hg⟩
def StpsB (B : Nat) (w : World) (rs : List Stp) : Prop := ∀ r ∈ rs, (IntSl B w r.1 r.2.2 ∧ r.2.2.length ≤ r.2.1 ∧ r.2.1 ≤ maxLen) ∧ ∀ x ∈ r.2.2, -9223372036854775808 ≤ x ∧ x ≤ 9223372036854775807
theorem stp_decB {H : Type} {enc : TypeId × Value → H} {P : Program} {w : World} {base m : Nat} {spare : Nat → Bool} {held : Bool} {t e : TypeId} {r : List Value} {y : DataW H × List MemPlace}
    (ht : P.underlying t = some (.slice e)) (he : P.underlying e = some (.int .i64)) (hc : P.cellsOf e = 1) (h : DataW.trod enc P w base spare held m t r = some y) :
    ∃ x : Stp, r = stpC x ∧ (IntSl w.heap.size w x.1 x.2.2 ∧ x.2.2.length ≤ x.2.1 ∧ x.2.1 ≤ maxLen) ∧ ∀ z ∈ x.2.2, -9223372036854775808 ≤ z ∧ z ≤ 9223372036854775807 := by
  rcases ChangeShapes.open_ints ht he hc h with ⟨rfl, _⟩ | ⟨a, len, cap, zs, rfl, h1, h2, h3, h4, h5, h6, h7⟩
  · exact ⟨(none, 0, []), rfl, ⟨IntSl.nil _ _ _, by simp, by simp [maxLen]⟩, by simp⟩
  · obtain ⟨xs, e1, e2, e3, e4, e5⟩ := ints_of_open (w := w) (a := some a) (n := len) (c := cap) (base := base) (spare := spare) (x := y) (.inr ⟨a, len, cap, zs, by simp [Value.cells], h1, h2, h3, h4, h5, h6, h7⟩)
    exact ⟨(some a, cap, xs), by simp [stpC, ← e1], ⟨e2, e3, e4⟩, e5⟩
end Go.Proofs.YtnmddgjgmdegoaaDoor
