/- ferryhytheref4.answer, any line; ferryhytheref4.Session. -/
import Derived.Test.YtbcfcjecobihnaaGreatDoorRtAnsS
import Derived.Test.YtbcfcjecobihnaaGreatDoorRtAnsD
import Derived.Test.YtbcfcjecobihnaaGreatDoorRtAnsF
import Derived.Test.YtbcfcjecobihnaaGreatDoorRtAnsC
namespace Go.Proofs.YtbcfcjecobihnaaGreatDoor
open Go.RowKit
set_option linter.unusedVariables false
set_option linter.unusedSimpArgs false
set_option maxRecDepth 100000

theorem refAns_any (B : Nat) (sp : Value) (b : Bk) (F : List Ent) (l : List UInt8) (w : World) (h : Sep B w (rteE sp b.1 :: F)) (hB : B ≤ w.heap.size) (hl : l.length ≤ 10000) (hfb : FineB b) :
    Calls Tryz.prog 52 #[.agg #[sp, .string (bkT b.2.1), .int .i64 (b.2.2 : Int)], .string (bytesOf l)] w fun e w' => AnsEnd B F w (ansD b l) e w' := by
  obtain ⟨L, tx, m⟩ := b
  simp only at h ⊢
  obtain ⟨w0, wt, hws⟩ : ∃ w0 wt, cutL 32 l = w0 :: wt := by
    cases hc : cutL 32 l with
    | nil => exact absurd hc (cutL_ne _ _)
    | cons a r => exact ⟨a, r, rfl⟩
  by_cases h1 : w0 = setT
  · exact refAns_set B sp _ tx m L F l w0 wt hws h1 w h hB hl rfl hfb
  by_cases h2 : w0 = dropT
  · exact refAns_drop B sp _ tx m L F l w0 wt hws h2 w h hB hl rfl hfb
  by_cases h3 : w0 = findT
  · exact refAns_find B sp _ tx m L F l w0 wt hws h3 w h hB hl rfl hfb
  by_cases h4 : w0 = manyT
  · exact refAns_many B sp _ tx m L F l w0 wt hws h4 w h hB hl rfl hfb
  by_cases h5 : w0 = crashT
  · exact refAns_crash B sp _ tx m L F l w0 wt hws h5 w h hB hl rfl hfb
  exact refAns_none B sp _ tx m L F l w0 wt hws h1 h2 h3 h4 h5 w h hB hl rfl hfb
end Go.Proofs.YtbcfcjecobihnaaGreatDoor
