/- vectorFact: the closed fact holds. -/
import Derived.Test.YtkheccnjcaljdaaSettle
import Derived.Test.YtkheccnjcaljdaaRowsSame
import Derived.Test.YtkheccnjcaljdaaLnkRow
namespace Go.Proofs.Ytkheccnjcaljdaa
open Go.RowKit
set_option linter.unusedVariables false

def vL : List Lnk := [(0, 1, 2), (2, 1, 3)]
theorem vL_ok : VOk 3 vL := ⟨by decide, by decide, by decide, by unfold LOk vL; decide⟩
def vM (i j : Nat) : Int := (([[0, 2, 1000], [2, 0, 3], [1000, 3, 0]] : List (List Int)).getD i []).getD j 0
theorem vL_one : ∀ i j : Fin 3, bell (edges vL) 1 i j = vM i j := by decide +kernel
theorem vL_two {k : Nat} (hk : k < 3) (hq : Quiet 3 (edges vL) k) : k = 2 := by
  have h : k = 0 ∨ k = 1 ∨ k = 2 := by omega
  rcases h with rfl | rfl | rfl
  · have := hq 0 1 (by decide) (by decide)
    have h2 : ¬ bell (edges vL) 0 0 1 = bell (edges vL) (0 + 1) 0 1 := by decide +kernel
    exact absurd this h2
  · have := hq 0 2 (by decide) (by decide)
    have h2 : ¬ bell (edges vL) 1 0 2 = bell (edges vL) (1 + 1) 0 2 := by decide +kernel
    exact absurd this h2
  · rfl

set_option maxHeartbeats 2000000 in
theorem vectorFact_any (w : World) : Calls Try.prog 11 #[] w fun e w' => e = .returned (.bool true) ∧ Below w.heap.size w w' := by
  have r1 := lnkSl_new w _ rfl #[.int .i64 0, .int .i64 1, .int .i64 2, .int .i64 2, .int .i64 1, .int .i64 3] 36 vL rfl
  have R1 := Lib.hid r1
  have B1 := Lib.hid (below_alloc w (.cells #[.int .i64 0, .int .i64 1, .int .i64 2, .int .i64 2, .int .i64 1, .int .i64 3] 36))
  have Z1 := Lib.hid (show (w.alloc (.cells #[.int .i64 0, .int .i64 1, .int .i64 2, .int .i64 2, .int .i64 1, .int .i64 3] 36)).heap.size = w.heap.size + 1 by simp)
  clear r1
  go_enter Try.func11, Try.ntmps11
  go_wp2_with fail
  refine (rounds_ok 3 _ 2 2 _ vL 1 _ R1.out rfl (Nat.le_of_eq Z1.out.symm) vL_ok (by decide)).mono ?_
  rintro e w2 ⟨v, P, rfl, hs, hb⟩
  have hs' := hs
  rw [← List.append_nil (matE v P 3 3 _)] at hs'
  obtain ⟨av, cv, rfl, _, _⟩ := mat_out (F := []) hs'
  have HM := Lib.hid (mat_read (F := []) hs' (by decide))
  have HB2 := Lib.hid (B1.out.trans (hb.mono (Nat.le_trans (Nat.le_succ _) (Nat.le_of_eq Z1.out.symm))))
  clear hs hs' hb
  have r2 := lnkSl_new w2 _ rfl #[.int .i64 0, .int .i64 1, .int .i64 2, .int .i64 2, .int .i64 1, .int .i64 3] 36 vL rfl
  have R2 := Lib.hid r2; clear r2
  have b2 := below_alloc w2 (.cells #[.int .i64 0, .int .i64 1, .int .i64 2, .int .i64 2, .int .i64 1, .int .i64 3] 36)
  have B2 := Lib.hid b2; clear b2
  have Z2 := Lib.hid (show (w2.alloc (.cells #[.int .i64 0, .int .i64 1, .int .i64 2, .int .i64 2, .int .i64 1, .int .i64 3] 36)).heap.size = w2.heap.size + 1 by simp)
  go_wp2_with fail
  refine (settle_ok 3 _ 2 2 _ vL _ R2.out rfl (Nat.le_of_eq Z2.out.symm) vL_ok).mono ?_
  rintro e w3 ⟨k, rfl, hk, hq, _, hb⟩
  obtain rfl := vL_two hk hq
  have hb3 := B2.out.trans (hb.mono (Nat.le_trans (Nat.le_succ _) (Nat.le_of_eq Z2.out.symm)))
  have HB3 := Lib.hid (HB2.out.trans (hb3.mono HB2.out.size))
  have HM3 := Lib.hid ((HM.out.below hb3).mono hb3.size)
  clear hk hq hb hb3 HM
  have hlit := matR_lit w3 3 32 vM _ rfl
  have HLIT := Lib.hid hlit; clear hlit
  have hkeep : ∀ o1 o2 o3 o4 : Obj, Below w3.heap.size w3 ((((w3.alloc o1).alloc o2).alloc o3).alloc o4) := fun o1 o2 o3 o4 =>
    (((below_alloc w3 o1).alloc (by simp) o2).alloc (by simp; omega) o3).alloc (by simp; omega) o4
  have HK := Lib.hid hkeep; clear hkeep
  have hcm : ∀ i j, i < 3 → j < 3 → bell (edges vL) 1 i j = vM i j := fun i j hi hj => vL_one ⟨i, hi⟩ ⟨j, hj⟩
  have HCM := Lib.hid hcm; clear hcm
  go_wp2_with fail
  refine (rowsSame_any _ _ _ _ 3 3 _ _ P (fun i => (w3.heap.size + i, 0, 3)) (bell (edges vL) 1) vM true _ (HM3.out.below (HK.out _ _ _ _)) HLIT.out (by decide) (by decide) ⟨fun _ => HCM.out, fun _ => rfl⟩).mono ?_
  rintro e w4 ⟨rfl, hd⟩
  have hb4 := (HK.out _ _ _ _).trans ((below_of_drew hd).mono (HK.out _ _ _ _).size)
  have HB4 := Lib.hid (HB3.out.trans (hb4.mono HB3.out.size))
  clear hd hb4
  go_wp2
  go_ret
  exact ⟨rfl, HB4.out⟩
end Go.Proofs.Ytkheccnjcaljdaa
