/- lpm.New, (*lpm.Table).Find: and what is known of a table. -/
import Derived.Test.YtbcfcjecobihnaaDoorLpmAt
import Derived.Test.YtbcfcjecobihnaaDoorLpmList
import Derived.Test.YtbcfcjecobihnaaDoorLpmChk
namespace Go.Proofs.YtbcfcjecobihnaaDoor
open Go.RowKit
set_option linter.unusedVariables false
set_option linter.unusedSimpArgs false
set_option maxRecDepth 100000

structure TabOk (T : LT) : Prop where
  root : T ≠ .nil
  deep : T.deep 17
  low : ∀ π, -1 ≤ T.at π
  high : ∀ π, T.at π ≤ 9
  few : (T.rts []).length ≤ 32
/-- A table of these routes lies there, beside other things. -/
def TabS (B : Nat) (w : World) (tb : Nat) (L : List Rte) (F : List Ent) : Prop := ∃ T, TabOk T ∧ T.rts [] = L ∧ Sep B w (lptE tb L.length T ++ F)
theorem TabS.kept {B tb : Nat} {w w' : World} {L : List Rte} {F : List Ent} (h : TabS B w tb L F) (hk : Below w.heap.size w w') : TabS B w' tb L F := by
  obtain ⟨T, h1, h2, h3⟩ := h
  exact ⟨T, h1, h2, h3.kept hk⟩
theorem TabS.few {B tb : Nat} {w : World} {L : List Rte} {F : List Ent} (h : TabS B w tb L F) : L.length ≤ 32 := by
  obtain ⟨T, h1, h2, h3⟩ := h
  rw [← h2]; exact h1.few
theorem TabS.srt {B tb : Nat} {w : World} {L : List Rte} {F : List Ent} (h : TabS B w tb L F) : SrtR L := by
  obtain ⟨T, h1, h2, h3⟩ := h
  rw [← h2]; exact rts_sorted h1.deep
theorem TabS.frame {B tb : Nat} {w : World} {L : List Rte} {F F' : List Ent} (h : TabS B w tb L F) (hf : F.Perm F') : TabS B w tb L F' := by
  obtain ⟨T, h1, h2, h3⟩ := h
  exact ⟨T, h1, h2, h3.perm (hf.append_left _)⟩

set_option maxHeartbeats 400000 in
theorem lpmNew_any (B : Nat) (F : List Ent) (w : World) (hB : B ≤ w.heap.size) (hs : Sep B w F) :
    Calls Tryd.prog 15 #[] w fun e w' => ∃ tb, e = .returned (.pointer (some ⟨tb, 0, none⟩)) ∧ TabS B w' tb [] F ∧ Below B w w' ∧ w.heap.size ≤ tb := by
  have h1 := Sep.blkNew hs hB #[.pointer none, .pointer none, .int .i64 (-1)] 71
  have h2 := Sep.blkNew h1 (by simp; omega) #[.pointer (some ⟨w.heap.size, 0, none⟩), .int .i64 0] 73
  have hb : Below B w ((w.alloc (.cells #[.pointer none, .pointer none, .int .i64 (-1)] 71)).alloc (.cells #[.pointer (some ⟨w.heap.size, 0, none⟩), .int .i64 0] 73)) := ((Below.refl B w).alloc hB _).alloc (by simp; omega) _
  have hok : TabOk (.node w.heap.size (-1) .nil .nil) := by
    have hat : ∀ π, (LT.node w.heap.size (-1) .nil .nil).at π = -1 := fun π => by
      match π with
      | [] => rfl
      | b :: π => rw [LT.at_cons]; cases b <;> exact LT.at_nil π
    refine ⟨by simp, ⟨trivial, trivial⟩, fun π => by rw [hat]; decide, fun π => by rw [hat]; decide, ?_⟩
    simp [LT.rts]
  have hfin : TabS B ((w.alloc (.cells #[.pointer none, .pointer none, .int .i64 (-1)] 71)).alloc (.cells #[.pointer (some ⟨w.heap.size, 0, none⟩), .int .i64 0] 73)) (w.heap.size + 1) [] F := by
    refine ⟨_, hok, by simp [LT.rts], ?_⟩
    rw [World.size_alloc] at h2
    exact h2
  have HF := Lib.hid hfin
  have HB := Lib.hid hb
  clear h1 h2 hok hfin hb hs
  go_enter Tryd.func15, Tryd.ntmps15
  go_wp2
  go_ret
  exact ⟨_, rfl, HF.out, HB.out, by omega⟩
end Go.Proofs.YtbcfcjecobihnaaDoor
