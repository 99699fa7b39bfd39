/- How an argument of type [][]int reads: rows of ints. -/
import Derived.Test.YtpfpaheafpibiaaDoorStp
import Derived.Test.YtpfpaheafpibiaaDoorLawKit
import Derived.ChangeSlices
namespace Go.Proofs.YtpfpaheafpibiaaDoor
open Go.RowKit

theorem stp_dec {H : Type} {enc : TypeId × Value → H} {P : Program} {w : World} {base m : Nat} {spare : Nat → Bool} {held : Bool} {t e : TypeId} {r : List Value} {y : DataW H × List MemPlace}
    (ht : P.underlying t = some (.slice e)) (he : P.underlying e = some (.int .i64)) (hc : P.cellsOf e = 1) (h : DataW.trod enc P w base spare held m t r = some y) :
    ∃ x : Stp, r = stpC x ∧ (IntSl w.heap.size w x.1 x.2.2 ∧ x.2.2.length ≤ x.2.1 ∧ x.2.1 ≤ maxLen) := by
  rcases ChangeShapes.open_ints ht he hc h with ⟨rfl, _⟩ | ⟨a, len, cap, zs, rfl, h1, h2, h3, h4, h5, h6, h7⟩
  · exact ⟨(none, 0, []), rfl, IntSl.nil _ _ _, by simp, by simp [maxLen]⟩
  · obtain ⟨xs, e1, e2, e3, e4, _⟩ := ints_of_open (w := w) (a := some a) (n := len) (c := cap) (base := base) (spare := spare) (x := y) (.inr ⟨a, len, cap, zs, by simp [Value.cells], h1, h2, h3, h4, h5, h6, h7⟩)
    exact ⟨(some a, cap, xs), by simp [stpC, ← e1], e2, e3, e4⟩
end Go.Proofs.YtpfpaheafpibiaaDoor
