/- Rows of ints with their bounds. -/
import Derived.Test.YtbcfcjecobihnaaDoorRows
import Derived.Test.YtbcfcjecobihnaaDoorLawKit
import Derived.Test.YtbcfcjecobihnaaDoorStp
import Derived.ChangeSlices
import Derived.ChangeSame
namespace Go.Proofs.YtbcfcjecobihnaaDoor
open Go.RowKit Go.ChangeShapes Go.WideShapes Go.ChangeAt

def StpsB (B : Nat) (w : World) (rs : List Stp) : Prop := ∀ r ∈ rs, (IntSl B w r.1 r.2.2 ∧ r.2.2.length ≤ r.2.1 ∧ r.2.1 ≤ maxLen) ∧ ∀ x ∈ r.2.2, -9223372036854775808 ≤ x ∧ x ≤ 9223372036854775807
theorem stp_decB {H : Type} {enc : TypeId × Value → H} {P : Program} {w : World} {base m : Nat} {spare : Nat → Bool} {held : Bool} {t e : TypeId} {r : List Value} {y : DataW H × List MemPlace}
    (ht : P.underlying t = some (.slice e)) (he : P.underlying e = some (.int .i64)) (hc : P.cellsOf e = 1) (h : DataW.trod enc P w base spare held m t r = some y) :
    ∃ x : Stp, r = stpC x ∧ (IntSl w.heap.size w x.1 x.2.2 ∧ x.2.2.length ≤ x.2.1 ∧ x.2.1 ≤ maxLen) ∧ ∀ z ∈ x.2.2, -9223372036854775808 ≤ z ∧ z ≤ 9223372036854775807 := by
  rcases ChangeShapes.open_ints ht he hc h with ⟨rfl, _⟩ | ⟨a, len, cap, zs, rfl, h1, h2, h3, h4, h5, h6, h7⟩
  · exact ⟨(none, 0, []), rfl, ⟨IntSl.nil _ _ _, by simp, by simp [maxLen]⟩, by simp⟩
  · obtain ⟨xs, e1, e2, e3, e4, e5⟩ := ints_of_open (w := w) (a := some a) (n := len) (c := cap) (base := base) (spare := spare) (x := y) (.inr ⟨a, len, cap, zs, by simp [Value.cells], h1, h2, h3, h4, h5, h6, h7⟩)
    exact ⟨(some a, cap, xs), by simp [stpC, ← e1], ⟨e2, e3, e4⟩, e5⟩
end Go.Proofs.YtbcfcjecobihnaaDoor
