/- (*lpm.Table).Drop, whatever comes. -/
import Derived.Test.YtbcfcjecobihnaaDoorLpmDrop
namespace Go.Proofs.YtbcfcjecobihnaaDoor
open Go.RowKit
set_option linter.unusedVariables false
set_option maxRecDepth 100000
theorem lpmDrop_any (B tb : Nat) (L : List Rte) (F : List Ent) (a n : Int) (w : World) (hB : B ≤ w.heap.size) (hs : TabS B w tb L F) :
    Calls Tryd.prog 22 #[.pointer (some ⟨tb, 0, none⟩), .agg #[.int .i64 a, .int .i64 n]] w fun e w' => e = .returned (errV (dropR L a n).2) ∧ TabS B w' tb (dropR L a n).1 F ∧ Below B w w' := by
  unfold dropR
  by_cases hc : chkP a n = 0
  · rw [if_neg (fun h => h hc)]
    obtain ⟨x, k, rfl, rfl, hk⟩ := chkP_ok hc
    rw [Int.toNat_natCast, Int.toNat_natCast]
    have := lpmDrop_ok B tb L F x k w hB hs hk
    by_cases hf : hasL L x k = true
    · rw [if_pos hf]; rw [if_pos hf, if_pos hf] at this; exact this
    · rw [if_neg hf]; rw [if_neg hf, if_neg hf] at this; exact this
  · rw [if_pos hc]; exact lpmDrop_bad B tb L F a n w hB hs hc
end Go.Proofs.YtbcfcjecobihnaaDoor
