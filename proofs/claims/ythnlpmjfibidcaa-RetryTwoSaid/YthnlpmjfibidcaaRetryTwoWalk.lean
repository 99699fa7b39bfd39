/- RetryTwo returns true for every two numbers. -/
import Derived.Test.YthnlpmjfibidcaaRows
import Derived.Test.YthnlpmjfibidcaaRetryFact
import Derived.Test.YthnlpmjfibidcaaIn4
namespace Go.Proofs.Ythnlpmjfibidcaa
open Go.RowKit

theorem retry_two_first (a b : Int) : retryRun 2 [a, b] = retryGo 2 1000 [(1, a % 2), (1, b % 2)] [] 1 [] [] := by
  have h2 : winOf 1 = 2 := by decide
  unfold retryRun
  rw [retryGo_many (f := 1000) rfl (by decide) (by decide) (by simp [nowFrom, List.replicate])]
  have e : pickAll (nowFrom 0 (List.replicate (2 : Int).toNat (0, 0))) [a, b] ((List.replicate (2 : Int).toNat (0, 0)).map tick1) = [(1, a % 2), (1, b % 2)] := by
    simp [nowFrom, pickAll, metOf, tick1, List.replicate, h2]
  rw [e]
  rfl

theorem mod_two (a : Int) : a % 2 = 0 ∨ a % 2 = 1 := by omega

theorem retry_two (a b : Int) (h : a % 2 = b % 2) : retryRun 2 [a, b] = ([], []) := by
  rw [retry_two_first]
  have ha := mod_two a
  rw [← h]
  rcases ha with ha | ha <;> rw [ha] <;> decide +kernel

theorem retry_two' (a b : Int) (h : ¬ a % 2 = b % 2) : retryRun 2 [a, b] = ([a % 2, b % 2], [1, 2]) := by
  rw [retry_two_first]
  have ha := mod_two a
  have hb := mod_two b
  rcases ha with ha | ha <;> rcases hb with hb | hb <;> rw [ha, hb] at h <;> rw [ha, hb]
  · omega
  · decide +kernel
  · decide +kernel
  · omega

set_option maxHeartbeats 400000 in
set_option maxRecDepth 100000 in
theorem retryTwo_walk (a b : Int) (w : World) (_ : -9223372036854775808 ≤ a ∧ a ≤ 9223372036854775807) (_ : -9223372036854775808 ≤ b ∧ b ≤ 9223372036854775807) :
    Calls Try.prog 9 #[.int .i64 a, .int .i64 b] w fun e w' => e = .returned (.bool true) ∧ Below w.heap.size w w' := by
  have HA := Lib.hid (fun w : World => intSl_new w #[.int .i64 a, .int .i64 b] 3 [a, b] rfl)
  by_cases hin : (0 ≤ a ∧ a ≤ 1000) ∧ 0 ≤ b ∧ b ≤ 1000
  · obtain ⟨⟨a0, a1⟩, b0, b1⟩ := hin
    by_cases hab : a % 2 = b % 2
    · have HR := Lib.hid (retry_two a b hab)
      have hbb : (a % 2 == b % 2) = true := by simp [hab]
      clear hab
      go_enter Try.func9, Try.ntmps9
      go_wp2_with fail
      refine (retryFact_any _).mono ?_
      rintro e w1 ⟨rfl, hb⟩
      have HB := Lib.hid hb; clear hb
      go_wp2_with fail
      refine (retryRun_ok 2 _ 2 2 _ [a, b] _ (by decide) (by decide) rfl (by simp) (by simp) (by simp; omega) (HA.out _) (by simp)).mono ?_
      rintro e w2 ⟨va, vb, rfl, hb1, hs1⟩
      rw [HR.out] at hs1
      obtain ⟨ao1, c1, rfl, _, _⟩ := hs1.intsShape (A := []) (C := [_])
      obtain ⟨ao2, c2, rfl, _, _⟩ := hs1.intsShape (A := [_]) (C := [])
      have HB1 := Lib.hid (below_past hb1); clear hb1 hs1
      go_wp2
      go_ret
      exact ⟨rfl, HB.out.trans (HB1.out.mono HB.out.size)⟩
    · have HR := Lib.hid (retry_two' a b hab)
      have hbb : (a % 2 == b % 2) = false := by simp [hab]
      clear hab
      go_enter Try.func9, Try.ntmps9
      go_wp2_with fail
      refine (retryFact_any _).mono ?_
      rintro e w1 ⟨rfl, hb⟩
      have HB := Lib.hid hb; clear hb
      go_wp2_with fail
      refine (retryRun_ok 2 _ 2 2 _ [a, b] _ (by decide) (by decide) rfl (by simp) (by simp) (by simp; omega) (HA.out _) (by simp)).mono ?_
      rintro e w2 ⟨va, vb, rfl, hb1, hs1⟩
      rw [HR.out] at hs1
      obtain ⟨ao1, c1, rfl, _, _⟩ := hs1.intsShape (A := []) (C := [_])
      obtain ⟨ao2, c2, rfl, _, _⟩ := hs1.intsShape (A := [_]) (C := [])
      have HX := Lib.hid (fun o => (hs1.intSl (A := []) (C := [_])).past (Nat.le_refl _) o)
      have HY := Lib.hid (hs1.intSl (A := [_]) (C := []))
      have HB1 := Lib.hid (HB.out.trans ((below_past hb1).mono HB.out.size)); clear hb1 hs1
      go_wp2_with fail
      refine (ints_any _ _ _ _ _ _ _ _ [a % 2, b % 2] [a % 2, b % 2] true _ (HX.out _) (intSl_new _ _ _ _ rfl) rfl rfl (by simp) (by simp)).mono ?_
      rintro e w3 ⟨rfl, hd⟩
      have HB2 := Lib.hid (below_past (below_of_drew hd)); clear hd
      have HY2 := Lib.hid (fun o => (HY.out.on (Nat.le_refl _) HB2.out).past HB2.out.size o)
      go_wp2_with fail
      refine (ints_any _ _ _ _ _ _ _ _ [1, 2] [1, 2] true _ (HY2.out _) (intSl_new _ _ _ _ rfl) rfl rfl (by simp) (by simp)).mono ?_
      rintro e w4 ⟨rfl, hd⟩
      have HB3 := Lib.hid (below_past (below_of_drew hd)); clear hd
      go_wp2
      go_ret
      exact ⟨rfl, HB1.out.trans ((HB2.out.mono HB1.out.size).trans (HB3.out.mono (Nat.le_trans HB1.out.size HB2.out.size)))⟩
  · have hbad : RetryBad 2 [a, b] 1 := by
      refine .inr (.inr ⟨by decide, by decide, by simp, ?_, rfl⟩)
      intro h
      exact hin ⟨h a (by simp), h b (by simp)⟩
    have HBAD := Lib.hid hbad; clear hbad
    by_cases ha : 0 ≤ a ∧ a ≤ 1000
    · have hb' : ¬ (0 ≤ b ∧ b ≤ 1000) := fun h => hin ⟨ha, h⟩
      obtain ⟨a0, a1⟩ := ha
      have Hb := Lib.hid hb'; clear hb' hin
      go_enter Try.func9, Try.ntmps9
      go_wp2_with fail
      refine (retryFact_any _).mono ?_
      rintro e w1 ⟨rfl, hb⟩
      have HB := Lib.hid hb; clear hb
      go_wp2_with fail
      refine (retryRun_err 2 _ 2 2 _ [a, b] 1 _ rfl (by simp) (HA.out _) HBAD.out).mono ?_
      rintro e w' ⟨rfl, rfl⟩
      go_wp2_with fail
      refine (in4_yes _ _ _ _ a0 a1).mono ?_
      rintro e w' ⟨rfl, rfl⟩
      go_wp2_with fail
      refine (in4_no _ _ _ _ Hb.out).mono ?_
      rintro e w' ⟨rfl, rfl⟩
      go_wp2
      go_ret
      exact ⟨rfl, HB.out.trans ((below_alloc _ _).mono HB.out.size)⟩
    · have Ha := Lib.hid ha; clear ha hin
      go_enter Try.func9, Try.ntmps9
      go_wp2_with fail
      refine (retryFact_any _).mono ?_
      rintro e w1 ⟨rfl, hb⟩
      have HB := Lib.hid hb; clear hb
      go_wp2_with fail
      refine (retryRun_err 2 _ 2 2 _ [a, b] 1 _ rfl (by simp) (HA.out _) HBAD.out).mono ?_
      rintro e w' ⟨rfl, rfl⟩
      go_wp2_with fail
      refine (in4_no _ _ _ _ Ha.out).mono ?_
      rintro e w' ⟨rfl, rfl⟩
      go_wp2
      go_ret
      exact ⟨rfl, HB.out.trans ((below_alloc _ _).mono HB.out.size)⟩
end Go.Proofs.Ythnlpmjfibidcaa
