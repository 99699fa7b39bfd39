/- rpfFact: the closed fact holds. -/
import Derived.Test.YtnmddgjgmdegoaaFlood
import Derived.Test.YtnmddgjgmdegoaaRpfLaws
import Derived.Test.YtnmddgjgmdegoaaInts
import Derived.Test.YtnmddgjgmdegoaaLnkRow
namespace Go.Proofs.Ytnmddgjgmdegoaa
open Go.RowKit
set_option linter.unusedVariables false
set_option maxRecDepth 100000

def rL : List Lnk := [(0, 1, 1), (1, 2, 1), (0, 2, 1)]
theorem rL_ok : VOk 3 rL := ⟨by decide, by decide, by decide, by unfold LOk rL; decide⟩
theorem rL_cop : arr (fun i => (copies 3 rL 0 i : Int)) 3 = [0, 2, 2] := by decide +kernel
theorem rL_sent : sentOf 3 rL 0 = 4 := by decide +kernel
set_option maxHeartbeats 2000000 in
theorem rpfFact_any (w : World) : Calls Try.prog 23 #[] w fun e w' => e = .returned (.bool true) ∧ Below w.heap.size w w' := by
  have r1 := lnkSl_new w _ rfl #[.int .i64 0, .int .i64 1, .int .i64 1, .int .i64 1, .int .i64 2, .int .i64 1, .int .i64 0, .int .i64 2, .int .i64 1] 71 rL rfl
  have b1 := below_alloc w (.cells #[.int .i64 0, .int .i64 1, .int .i64 1, .int .i64 1, .int .i64 2, .int .i64 1, .int .i64 0, .int .i64 2, .int .i64 1] 71)
  have z1 : (w.alloc (.cells #[.int .i64 0, .int .i64 1, .int .i64 1, .int .i64 1, .int .i64 2, .int .i64 1, .int .i64 0, .int .i64 2, .int .i64 1] 71)).heap.size = w.heap.size + 1 := by simp
  have R1 := Lib.hid r1
  have B1 := Lib.hid b1
  have Z1 := Lib.hid z1
  clear r1 b1 z1
  go_enter Try.func23, Try.ntmps23
  go_wp2_with fail
  refine (flood_ok 3 _ 3 3 _ rL 0 _ R1.out rfl (Nat.le_of_eq Z1.out.symm) rL_ok (by decide)).mono ?_
  rintro e w2 ⟨vf, rfl, hs, hb⟩
  rw [rL_cop] at hs
  rw [rL_sent]
  obtain ⟨ao1, c1, rfl, _, _⟩ := hs.intsShape (A := []) (C := [])
  have HX := Lib.hid (hs.intSl (A := []) (C := []))
  have HB2 := Lib.hid (B1.out.trans (hb.mono (Nat.le_trans (Nat.le_succ _) (Nat.le_of_eq Z1.out.symm))))
  clear hs hb
  have hX3 : ∀ o : Obj, IntSl w2.heap.size (w2.alloc o) ao1 [0, 2, 2] := fun o => HX.out.past (Nat.le_refl _) o
  have HX4 := Lib.hid hX3; clear hX3
  go_wp2_with fail
  refine (ints_any _ _ _ _ _ _ _ _ [0, 2, 2] [0, 2, 2] true _ (HX4.out _) (intSl_new _ _ _ _ rfl) rfl rfl (by decide) (by decide)).mono ?_
  rintro e w4 ⟨rfl, hd⟩
  have hb4 := below_past (below_of_drew hd)
  have HB4 := Lib.hid (HB2.out.trans (hb4.mono HB2.out.size))
  clear hd hb4
  go_wp2
  go_ret
  exact ⟨rfl, HB4.out⟩
end Go.Proofs.Ytnmddgjgmdegoaa
