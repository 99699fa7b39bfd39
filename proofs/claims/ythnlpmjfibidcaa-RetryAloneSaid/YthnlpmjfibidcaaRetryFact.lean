/- retryFact: the closed fact holds. -/
import Derived.Test.YthnlpmjfibidcaaRows
import Derived.Test.YthnlpmjfibidcaaRetryRun
import Derived.Test.YthnlpmjfibidcaaInts
namespace Go.Proofs.Ythnlpmjfibidcaa
open Go.RowKit

set_option maxHeartbeats 400000 in
set_option maxRecDepth 100000 in
theorem retryFact_any (w : World) : Calls Try.prog 17 #[] w fun e w' => e = .returned (.bool true) ∧ Below w.heap.size w w' := by
  have hrun : retryRun 2 [1, 0] = ([1, 0], [1, 2]) := by decide +kernel
  have HRUN := Lib.hid hrun; clear hrun
  have h3 : winOf 3 = 8 := by decide
  have hA := intSl_new w #[.int .i64 1, .int .i64 0] 3 [1, 0] rfl
  have HA := Lib.hid hA; clear hA
  go_enter Try.func17, Try.ntmps17
  go_wp2_with fail
  refine (retryRun_ok 2 _ 2 2 _ [1, 0] _ (by decide) (by decide) rfl (by decide) (by decide) (by decide) HA.out (by simp)).mono ?_
  rintro e w1 ⟨va, vb, rfl, hb1, hs1⟩
  rw [HRUN.out] at hs1
  obtain ⟨ao1, c1, rfl, _, _⟩ := hs1.intsShape (A := []) (C := [_])
  obtain ⟨ao2, c2, rfl, _, _⟩ := hs1.intsShape (A := [_]) (C := [])
  have HX := Lib.hid (fun o => (hs1.intSl (A := []) (C := [_])).past (Nat.le_refl _) o)
  have HY := Lib.hid (hs1.intSl (A := [_]) (C := []))
  have HB1 := Lib.hid (below_past hb1); clear hb1 hs1
  go_wp2_with fail
  refine (retryWindow_ok 3 _ (by decide) (by decide)).mono ?_
  rintro e w' ⟨rfl, rfl⟩
  go_wp2_with fail
  refine (ints_any _ _ _ _ _ _ _ _ [1, 0] [1, 0] true _ (HX.out _) (intSl_new _ _ _ _ rfl) rfl rfl (by decide) (by decide)).mono ?_
  rintro e w2 ⟨rfl, hd⟩
  have HB2 := Lib.hid (below_past (below_of_drew hd)); clear hd
  have HY2 := Lib.hid (fun o => (HY.out.on (Nat.le_refl _) HB2.out).past HB2.out.size o)
  go_wp2_with fail
  refine (ints_any _ _ _ _ _ _ _ _ [1, 2] [1, 2] true _ (HY2.out _) (intSl_new _ _ _ _ rfl) rfl rfl (by decide) (by decide)).mono ?_
  rintro e w3 ⟨rfl, hd⟩
  have HB3 := Lib.hid (below_past (below_of_drew hd)); clear hd
  go_wp2
  go_ret
  exact ⟨rfl, HB1.out.trans ((HB2.out.mono HB1.out.size).trans (HB3.out.mono (Nat.le_trans HB1.out.size HB2.out.size)))⟩
end Go.Proofs.Ythnlpmjfibidcaa
