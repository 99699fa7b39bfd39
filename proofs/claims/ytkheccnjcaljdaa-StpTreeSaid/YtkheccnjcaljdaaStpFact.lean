/- stpFact: the closed fact holds. -/
import Derived.Test.YtkheccnjcaljdaaTree
import Derived.Test.YtkheccnjcaljdaaInts
namespace Go.Proofs.Ytkheccnjcaljdaa
open Go.RowKit
set_option linter.unusedVariables false

def tL : List Lnk := [(2, 1, 1), (0, 2, 1)]
theorem tL_ok : VOk 3 tL := ⟨by decide, by decide, by decide, by unfold LOk tL; decide⟩
theorem tL_root : arr (fun i => (rootF 3 (edges tL) i : Int)) 3 = [0, 0, 0] := by decide +kernel
theorem tL_far : arr (fun i => far (edges tL) i (rootF 3 (edges tL) i)) 3 = [0, 2, 1] := by decide +kernel
theorem tL_hop : arr (fun i => hopOf 3 (edges tL) i (rootF 3 (edges tL) i)) 3 = [-1, 2, 0] := by decide +kernel

set_option maxHeartbeats 2000000 in
theorem stpFact_any (w : World) : Calls Try.prog 15 #[] w fun e w' => e = .returned (.bool true) ∧ Below w.heap.size w w' := by
  have r1 := lnkSl_new w _ rfl #[.int .i64 2, .int .i64 1, .int .i64 1, .int .i64 0, .int .i64 2, .int .i64 1] 36 tL rfl
  have b1 := below_alloc w (.cells #[.int .i64 2, .int .i64 1, .int .i64 1, .int .i64 0, .int .i64 2, .int .i64 1] 36)
  have z1 : (w.alloc (.cells #[.int .i64 2, .int .i64 1, .int .i64 1, .int .i64 0, .int .i64 2, .int .i64 1] 36)).heap.size = w.heap.size + 1 := by simp
  have R1 := Lib.hid r1
  have B1 := Lib.hid b1
  have Z1 := Lib.hid z1
  clear r1 b1 z1
  go_enter Try.func15, Try.ntmps15
  go_wp2_with fail
  refine (tree_ok 3 _ 2 2 _ tL _ R1.out rfl (Nat.le_of_eq Z1.out.symm) tL_ok).mono ?_
  rintro e w2 ⟨vr, vf, vo, rfl, hs, hb⟩
  rw [tL_root, tL_far, tL_hop] at hs
  obtain ⟨ao1, c1, rfl, _, _⟩ := hs.intsShape (A := []) (C := [_, _])
  obtain ⟨ao2, c2, rfl, _, _⟩ := hs.intsShape (A := [_]) (C := [_])
  obtain ⟨ao3, c3, rfl, _, _⟩ := hs.intsShape (A := [_, _]) (C := [])
  have HX := Lib.hid (hs.intSl (A := []) (C := [_, _]))
  have HY := Lib.hid (hs.intSl (A := [_]) (C := [_]))
  have HL := Lib.hid (hs.intSl (A := [_, _]) (C := []))
  have HB3 := Lib.hid (B1.out.trans (hb.mono (Nat.le_trans (Nat.le_succ _) (Nat.le_of_eq Z1.out.symm))))
  have HX3 := HX
  have HY3 := HY
  clear hs hb HX HY
  have hX3 : ∀ o : Obj, IntSl w2.heap.size (w2.alloc o) ao1 [0, 0, 0] := fun o => HX3.out.past (Nat.le_refl _) o
  have HX4 := Lib.hid hX3; clear hX3
  go_wp2_with fail
  refine (ints_any _ _ _ _ _ _ _ _ [0, 0, 0] [0, 0, 0] true _ (HX4.out _) (intSl_new _ _ _ _ rfl) rfl rfl (by decide) (by decide)).mono ?_
  rintro e w4 ⟨rfl, hd⟩
  have hb4 := below_past (below_of_drew hd)
  have HB4 := Lib.hid (HB3.out.trans (hb4.mono HB3.out.size))
  have HY4 := Lib.hid ((HY3.out.below hb4).mono hb4.size)
  have HL4 := Lib.hid ((HL.out.below hb4).mono hb4.size)
  clear hd hb4
  have hY4 : ∀ o : Obj, IntSl w4.heap.size (w4.alloc o) ao2 [0, 2, 1] := fun o => HY4.out.past (Nat.le_refl _) o
  have HY5 := Lib.hid hY4; clear hY4
  go_wp2_with fail
  refine (ints_any _ _ _ _ _ _ _ _ [0, 2, 1] [0, 2, 1] true _ (HY5.out _) (intSl_new _ _ _ _ rfl) rfl rfl (by decide) (by decide)).mono ?_
  rintro e w5 ⟨rfl, hd⟩
  have hb5 := below_past (below_of_drew hd)
  have HB5 := Lib.hid (HB4.out.trans (hb5.mono HB4.out.size))
  have HL5 := Lib.hid ((HL4.out.below hb5).mono hb5.size)
  clear hd hb5
  have hL5 : ∀ o : Obj, IntSl w5.heap.size (w5.alloc o) ao3 [-1, 2, 0] := fun o => HL5.out.past (Nat.le_refl _) o
  have HL6 := Lib.hid hL5; clear hL5
  go_wp2_with fail
  refine (ints_any _ _ _ _ _ _ _ _ [-1, 2, 0] [-1, 2, 0] true _ (HL6.out _) (intSl_new _ _ _ _ rfl) rfl rfl (by decide) (by decide)).mono ?_
  rintro e w6 ⟨rfl, hd⟩
  have hb6 := below_past (below_of_drew hd)
  have HB6 := Lib.hid (HB5.out.trans (hb6.mono HB5.out.size))
  clear hd hb6
  go_wp2
  go_ret
  exact ⟨rfl, HB6.out⟩
end Go.Proofs.Ytkheccnjcaljdaa
