/- RetrySays returns true: of any stations, and any picks, who sends, and in which slots, and from how many slots one is picked, are as the document says. -/
import Derived.Test.YthnlpmjfibidcaaDoorTold
import Derived.Test.YthnlpmjfibidcaaDoorRetryRef
import Derived.Test.YthnlpmjfibidcaaDoorRetryRun
import Derived.Test.YthnlpmjfibidcaaDoorRetryWindow
import Derived.Test.YthnlpmjfibidcaaDoorAllR
import Derived.Test.YthnlpmjfibidcaaDoorInts
import Derived.Test.YthnlpmjfibidcaaDoorIn4
namespace Go.Proofs.YthnlpmjfibidcaaDoor
open Go.RowKit
set_option linter.unusedVariables false

theorem windowOk_any (m : Int) (w : World) (h0 : 0 ≤ m) (h1 : m ≤ 200) : Calls Tryd.prog 23 #[.int .i64 m] w fun e w' => e = .returned (.tuple #[.int .i64 (winOf m), .nilIface]) ∧ w = w' := by
  have HW := Lib.hid (window_any m w h0)
  go_enter Tryd.func23, Tryd.ntmps23
  go_wp2_with fail
  refine (within_yes _ _ _ _ h0 h1).mono ?_
  rintro e w' ⟨rfl, rfl⟩
  go_wp2_with fail
  refine HW.out.mono ?_
  rintro e w' ⟨rfl, rfl⟩
  go_wp2
  go_ret2
  exact ⟨rfl, rfl⟩
theorem windowBad_any (m : Int) (w : World) (h : ¬ (0 ≤ m ∧ m ≤ 200)) : Calls Tryd.prog 23 #[.int .i64 m] w fun e w' => e = .returned (.tuple #[.int .i64 0, .iface 64 (.int .i64 1)]) ∧ w = w' := by
  have H := Lib.hid h; clear h
  go_enter Tryd.func23, Tryd.ntmps23
  go_wp2_with fail
  refine (within_no _ _ _ _ H.out).mono ?_
  rintro e w' ⟨rfl, rfl⟩
  go_wp2
  go_ret2
  exact ⟨rfl, rfl⟩
set_option maxHeartbeats 2000000 in
set_option maxRecDepth 100000 in
theorem retrySays_walk (n : Int) (ao : Option Addr) (ac : Nat) (ps : List Int) (met : Int) (w : World) (hdoor : Door w) (hnb : -9223372036854775808 ≤ n ∧ n ≤ 9223372036854775807) (hA : IntSl w.heap.size w ao ps) (hac : ps.length ≤ ac) (hmax : ac ≤ maxLen) (hgood : ∀ x ∈ ps, -9223372036854775808 ≤ x ∧ x ≤ 9223372036854775807) (hmb : -9223372036854775808 ≤ met ∧ met ≤ 9223372036854775807) :
    Calls Tryd.prog 5 #[.int .i64 n, .slice ao ps.length ac, .int .i64 met] w fun e w' => e = .returned (.bool true) ∧ Below w.heap.size w w' := by
  unfold maxLen at hmax
  have HA0 := Lib.hid hA; clear hA hgood
  have HD := Lib.hid hdoor; clear hdoor
  obtain ⟨g, hg⟩ : ∃ g, g = w.heap.size := ⟨_, rfl⟩
  rw [← hg] at HA0
  have HA := HA0
  clear HA0
  have HG := Lib.hid hg; clear hg
  have hdoor' : ∀ w', Below g w w' → Door w' := fun w' h => HD.out.below h (by rw [HG.out]; exact HD.out.pos)
  have HDOOR := Lib.hid hdoor'; clear hdoor' HD
  have hsame0 : ∀ w', Below g w w' → Calls Tryd.prog 12 #[.nilIface, .int .i64 0] w' fun x w'' => x = .returned (.bool true) ∧ Below w'.heap.size w' w'' := fun w' h => by
    have := same_any 0 0 true w' (HDOOR.out _ h) rfl
    rw [errV_zero] at this
    exact this
  have HSAME0 := Lib.hid hsame0
  clear hsame0
  have hsame1 : ∀ w', Below g w w' → Calls Tryd.prog 12 #[.iface 64 (.int .i64 1), .int .i64 1] w' fun x w'' => x = .returned (.bool true) ∧ Below w'.heap.size w' w'' := fun w' h => by
    have := same_any 1 1 true w' (HDOOR.out _ h) (by simp)
    rw [errV_not (by decide)] at this
    exact this
  have HSAME1 := Lib.hid hsame1
  clear hsame1
  have hsame4 : ∀ w', Below g w w' → Calls Tryd.prog 12 #[.iface 64 (.int .i64 4), .int .i64 4] w' fun x w'' => x = .returned (.bool true) ∧ Below w'.heap.size w' w'' := fun w' h => by
    have := same_any 4 4 true w' (HDOOR.out _ h) (by simp)
    rw [errV_not (by decide)] at this
    exact this
  have HSAME4 := Lib.hid hsame4
  clear hsame4
  have HB1 := Lib.hid (Below.refl g w)
  have hg1 : g ≤ w.heap.size := by have := HG.out; omega
  by_cases hn : 1 ≤ n ∧ n ≤ 5
  · obtain ⟨hn1, hn5⟩ := hn
    obtain ⟨m, rfl⟩ := Int.eq_ofNat_of_zero_le (by omega : 0 ≤ n)
    have hm1 : 1 ≤ m := by omega
    have hm5 : m ≤ 5 := by omega
    by_cases hp : ps.length ≤ 200
    · have hd2 : decide ((200 : Int) < (ps.length : Int)) = false := decide_eq_false (by omega)
      by_cases hr : ∀ y ∈ ps, 0 ≤ y ∧ y ≤ 1000
      · have HR := Lib.hid hr
        have HRD := Lib.hid (show true = decide (∀ y ∈ ps, 0 ≤ y ∧ y ≤ 1000) from (decide_eq_true hr).symm)
        clear hr
        go_enter Tryd.func5, Tryd.ntmps5
        go_wp2_with fail
        refine (in4_yes _ _ _ _ hn1 hn5).mono ?_
        rintro e w' ⟨rfl, rfl⟩
        go_wp2_with fail
        refine (allR_any _ _ _ _ ps 0 1000 true _ HA.out rfl (by omega) HRD.out).mono ?_
        rintro e w' ⟨rfl, rfl⟩
        clear hd2
        go_wp2_with fail
        refine (retryRef_ok m hm1 hm5 _ _ g ps _ hp HR.out HA.out hg1).mono ?_
        rintro e w2 ⟨va, vb, rfl, hb, hs⟩
        obtain ⟨⟨R1, R2⟩, hR⟩ : ∃ R, R = retryRun m ps := ⟨_, rfl⟩
        rw [← hR] at hs
        simp only at hs
        obtain ⟨a1, k1, rfl, -⟩ := hs.intsShape (A := []) (C := [_])
        obtain ⟨a2, k2, rfl, -⟩ := hs.intsShape (A := [_]) (C := [])
        have HL2 := Lib.hid hs
        have HRR := Lib.hid hR
        clear hs hR
        have hbk := hb
        have HB2 := Lib.hid (HB1.out.trans (hb.mono hg1))
        have hg2 : g ≤ w2.heap.size := by have := HB2.out.size; rw [← HG.out] at this; exact this
        clear hb
        go_wp2_with fail
        refine (retryRun_ok m _ _ _ g ps _ hn1 hn5 rfl hp hac HR.out (HA.out.below HB2.out) hg2).mono ?_
        rintro e w3 ⟨va', vb', rfl, hb, hs⟩
        rw [← HRR.out] at hs
        simp only at hs
        obtain ⟨a3, k3, rfl, -⟩ := hs.intsShape (A := []) (C := [_])
        obtain ⟨a4, k4, rfl, -⟩ := hs.intsShape (A := [_]) (C := [])
        have HP3 := Lib.hid hs
        have HL3 := Lib.hid (HL2.out.kept hb)
        clear hs hbk HL2
        have HB3 := Lib.hid (HB2.out.trans (hb.mono hg2))
        have hg3 : g ≤ w3.heap.size := by have := HB3.out.size; rw [← HG.out] at this; exact this
        clear hb
        go_wp2_with fail
        refine (HSAME0.out _ HB3.out).mono ?_
        rintro e w4 ⟨rfl, hb⟩
        have HP4 := Lib.hid (HP3.out.kept hb)
        have HL4 := Lib.hid (HL3.out.kept hb)
        clear HP3 HL3
        have HB4 := Lib.hid (HB3.out.trans (hb.mono hg3))
        have hg4 : g ≤ w4.heap.size := by have := HB4.out.size; rw [← HG.out] at this; exact this
        clear hb
        have hlb : R1.length ≤ 9223372036854775807 ∧ R2.length ≤ 9223372036854775807 := by have := retryRun_len m ps; rw [← HRR.out] at this; simp only at this; omega
        have HLB := Lib.hid hlb
        clear hlb
        go_wp2_with fail
        refine (ints_any _ _ _ _ _ _ _ _ R1 R1 true _ (HP4.out.intSl (A := []) (C := [_])) (HL4.out.intSl (A := []) (C := [_])) rfl rfl HLB.out.1 (by rw [decide_eq_true]; rfl)).mono ?_
        rintro e w5 ⟨rfl, hd⟩
        have hb := below_of_drew hd
        have HP5 := Lib.hid (HP4.out.kept hb)
        have HL5 := Lib.hid (HL4.out.kept hb)
        clear HP4 HL4 hd
        have HB5 := Lib.hid (HB4.out.trans (hb.mono hg4))
        have hg5 : g ≤ w5.heap.size := by have := HB5.out.size; rw [← HG.out] at this; exact this
        clear hb
        go_wp2_with fail
        refine (ints_any _ _ _ _ _ _ _ _ R2 R2 true _ (HP5.out.intSl (A := [_]) (C := [])) (HL5.out.intSl (A := [_]) (C := [])) rfl rfl HLB.out.2 (by rw [decide_eq_true]; rfl)).mono ?_
        rintro e w6 ⟨rfl, hd⟩
        have hb := below_of_drew hd
        clear HP5 HL5 hd
        have HB6 := Lib.hid (HB5.out.trans (hb.mono hg5))
        have hg6 : g ≤ w6.heap.size := by have := HB6.out.size; rw [← HG.out] at this; exact this
        clear hb
        by_cases hmet : 0 ≤ met ∧ met ≤ 200
        · obtain ⟨hmet0, hmet1⟩ := hmet
          obtain ⟨room, hroom⟩ : ∃ room, room = winOf met := ⟨_, rfl⟩
          have HROOM := Lib.hid hroom
          clear hroom
          have hrr : (room == room) = true := by simp
          go_wp2_with fail
          refine (in4_yes _ _ _ _ hmet0 hmet1).mono ?_
          rintro e w' ⟨rfl, rfl⟩
          go_wp2_with fail
          refine (room_any met hmet0 _).mono ?_
          rintro e w' ⟨rfl, rfl⟩
          rw [← HROOM.out]
          go_wp2_with fail
          refine (windowOk_any met _ hmet0 hmet1).mono ?_
          rintro e w' ⟨rfl, rfl⟩
          rw [← HROOM.out]
          go_wp2_with fail
          refine (HSAME0.out _ HB6.out).mono ?_
          rintro e w20 ⟨rfl, hb⟩
          have HB20 := Lib.hid (HB6.out.trans (hb.mono hg6))
          have hg20 : g ≤ w20.heap.size := by have := HB20.out.size; rw [← HG.out] at this; exact this
          clear hb
          go_wp2
          go_ret
          exact ⟨rfl, by have := HB20.out; rw [HG.out] at this; exact this⟩
        · have HMET := Lib.hid hmet
          clear hmet
          go_wp2_with fail
          refine (in4_no _ _ _ _ HMET.out).mono ?_
          rintro e w' ⟨rfl, rfl⟩
          go_wp2_with fail
          refine (windowBad_any met _ HMET.out).mono ?_
          rintro e w' ⟨rfl, rfl⟩
          go_wp2_with fail
          refine (HSAME1.out _ HB6.out).mono ?_
          rintro e w20 ⟨rfl, hb⟩
          have HB20 := Lib.hid (HB6.out.trans (hb.mono hg6))
          have hg20 : g ≤ w20.heap.size := by have := HB20.out.size; rw [← HG.out] at this; exact this
          clear hb
          go_wp2
          go_ret
          exact ⟨rfl, by have := HB20.out; rw [HG.out] at this; exact this⟩
      · have HSAMEc := HSAME1
        have HBAD := Lib.hid (show RetryBad (m : Int) ps 1 from .inr (.inr ⟨hn1, hn5, hp, hr, rfl⟩))
        have HRD := Lib.hid (show false = decide (∀ y ∈ ps, 0 ≤ y ∧ y ≤ 1000) from (decide_eq_false hr).symm)
        clear hr
        go_enter Tryd.func5, Tryd.ntmps5
        go_wp2_with fail
        refine (in4_yes _ _ _ _ hn1 hn5).mono ?_
        rintro e w' ⟨rfl, rfl⟩
        go_wp2_with fail
        refine (allR_any _ _ _ _ ps 0 1000 false _ HA.out rfl (by omega) HRD.out).mono ?_
        rintro e w' ⟨rfl, rfl⟩
        clear hd2
        obtain ⟨n, hnn⟩ : ∃ n, n = (m : Int) := ⟨_, rfl⟩
        rw [← hnn] at HBAD ⊢
        clear hnn
        go_wp2_with fail
        refine (retryRun_err n _ _ _ g ps 1 _ rfl (by omega) HA.out HBAD.out).mono ?_
        rintro e w' ⟨rfl, rfl⟩
        go_wp2_with fail
        refine (HSAMEc.out _ HB1.out).mono ?_
        rintro e w2 ⟨rfl, hb⟩
        have HB2 := Lib.hid (HB1.out.trans (hb.mono hg1))
        have hg2 : g ≤ w2.heap.size := by have := HB2.out.size; rw [← HG.out] at this; exact this
        clear hb
        go_wp2_with fail
        refine (ints_any _ _ _ _ _ _ 0 0 [] [] true _ (IntSl.nil _ _ _) (IntSl.nil _ _ _) rfl rfl (by decide) (by decide)).mono ?_
        rintro e w3 ⟨rfl, hd⟩
        have hb := below_of_drew hd
        clear hd
        have HB3 := Lib.hid (HB2.out.trans (hb.mono hg2))
        have hg3 : g ≤ w3.heap.size := by have := HB3.out.size; rw [← HG.out] at this; exact this
        clear hb
        go_wp2_with fail
        refine (ints_any _ _ _ _ _ _ 0 0 [] [] true _ (IntSl.nil _ _ _) (IntSl.nil _ _ _) rfl rfl (by decide) (by decide)).mono ?_
        rintro e w4 ⟨rfl, hd⟩
        have hb := below_of_drew hd
        clear hd
        have HB4 := Lib.hid (HB3.out.trans (hb.mono hg3))
        have hg4 : g ≤ w4.heap.size := by have := HB4.out.size; rw [← HG.out] at this; exact this
        clear hb
        by_cases hmet : 0 ≤ met ∧ met ≤ 200
        · obtain ⟨hmet0, hmet1⟩ := hmet
          obtain ⟨room, hroom⟩ : ∃ room, room = winOf met := ⟨_, rfl⟩
          have HROOM := Lib.hid hroom
          clear hroom
          have hrr : (room == room) = true := by simp
          go_wp2_with fail
          refine (in4_yes _ _ _ _ hmet0 hmet1).mono ?_
          rintro e w' ⟨rfl, rfl⟩
          go_wp2_with fail
          refine (room_any met hmet0 _).mono ?_
          rintro e w' ⟨rfl, rfl⟩
          rw [← HROOM.out]
          go_wp2_with fail
          refine (windowOk_any met _ hmet0 hmet1).mono ?_
          rintro e w' ⟨rfl, rfl⟩
          rw [← HROOM.out]
          go_wp2_with fail
          refine (HSAME0.out _ HB4.out).mono ?_
          rintro e w20 ⟨rfl, hb⟩
          have HB20 := Lib.hid (HB4.out.trans (hb.mono hg4))
          have hg20 : g ≤ w20.heap.size := by have := HB20.out.size; rw [← HG.out] at this; exact this
          clear hb
          go_wp2
          go_ret
          exact ⟨rfl, by have := HB20.out; rw [HG.out] at this; exact this⟩
        · have HMET := Lib.hid hmet
          clear hmet
          go_wp2_with fail
          refine (in4_no _ _ _ _ HMET.out).mono ?_
          rintro e w' ⟨rfl, rfl⟩
          go_wp2_with fail
          refine (windowBad_any met _ HMET.out).mono ?_
          rintro e w' ⟨rfl, rfl⟩
          go_wp2_with fail
          refine (HSAME1.out _ HB4.out).mono ?_
          rintro e w20 ⟨rfl, hb⟩
          have HB20 := Lib.hid (HB4.out.trans (hb.mono hg4))
          have hg20 : g ≤ w20.heap.size := by have := HB20.out.size; rw [← HG.out] at this; exact this
          clear hb
          go_wp2
          go_ret
          exact ⟨rfl, by have := HB20.out; rw [HG.out] at this; exact this⟩
    · have hd2 : decide ((200 : Int) < (ps.length : Int)) = true := decide_eq_true (by omega)
      have HSAMEc := HSAME4
      have HBAD := Lib.hid (show RetryBad (m : Int) ps 4 from .inr (.inl ⟨hn1, hn5, by omega, rfl⟩))
      go_enter Tryd.func5, Tryd.ntmps5
      go_wp2_with fail
      refine (in4_yes _ _ _ _ hn1 hn5).mono ?_
      rintro e w' ⟨rfl, rfl⟩
      obtain ⟨n, hnn⟩ : ∃ n, n = (m : Int) := ⟨_, rfl⟩
      rw [← hnn] at HBAD ⊢
      clear hnn
      go_wp2_with fail
      refine (retryRun_err n _ _ _ g ps 4 _ rfl (by omega) HA.out HBAD.out).mono ?_
      rintro e w' ⟨rfl, rfl⟩
      go_wp2_with fail
      refine (HSAMEc.out _ HB1.out).mono ?_
      rintro e w2 ⟨rfl, hb⟩
      have HB2 := Lib.hid (HB1.out.trans (hb.mono hg1))
      have hg2 : g ≤ w2.heap.size := by have := HB2.out.size; rw [← HG.out] at this; exact this
      clear hb
      go_wp2_with fail
      refine (ints_any _ _ _ _ _ _ 0 0 [] [] true _ (IntSl.nil _ _ _) (IntSl.nil _ _ _) rfl rfl (by decide) (by decide)).mono ?_
      rintro e w3 ⟨rfl, hd⟩
      have hb := below_of_drew hd
      clear hd
      have HB3 := Lib.hid (HB2.out.trans (hb.mono hg2))
      have hg3 : g ≤ w3.heap.size := by have := HB3.out.size; rw [← HG.out] at this; exact this
      clear hb
      go_wp2_with fail
      refine (ints_any _ _ _ _ _ _ 0 0 [] [] true _ (IntSl.nil _ _ _) (IntSl.nil _ _ _) rfl rfl (by decide) (by decide)).mono ?_
      rintro e w4 ⟨rfl, hd⟩
      have hb := below_of_drew hd
      clear hd
      have HB4 := Lib.hid (HB3.out.trans (hb.mono hg3))
      have hg4 : g ≤ w4.heap.size := by have := HB4.out.size; rw [← HG.out] at this; exact this
      clear hb
      by_cases hmet : 0 ≤ met ∧ met ≤ 200
      · obtain ⟨hmet0, hmet1⟩ := hmet
        obtain ⟨room, hroom⟩ : ∃ room, room = winOf met := ⟨_, rfl⟩
        have HROOM := Lib.hid hroom
        clear hroom
        have hrr : (room == room) = true := by simp
        go_wp2_with fail
        refine (in4_yes _ _ _ _ hmet0 hmet1).mono ?_
        rintro e w' ⟨rfl, rfl⟩
        go_wp2_with fail
        refine (room_any met hmet0 _).mono ?_
        rintro e w' ⟨rfl, rfl⟩
        rw [← HROOM.out]
        go_wp2_with fail
        refine (windowOk_any met _ hmet0 hmet1).mono ?_
        rintro e w' ⟨rfl, rfl⟩
        rw [← HROOM.out]
        go_wp2_with fail
        refine (HSAME0.out _ HB4.out).mono ?_
        rintro e w20 ⟨rfl, hb⟩
        have HB20 := Lib.hid (HB4.out.trans (hb.mono hg4))
        have hg20 : g ≤ w20.heap.size := by have := HB20.out.size; rw [← HG.out] at this; exact this
        clear hb
        go_wp2
        go_ret
        exact ⟨rfl, by have := HB20.out; rw [HG.out] at this; exact this⟩
      · have HMET := Lib.hid hmet
        clear hmet
        go_wp2_with fail
        refine (in4_no _ _ _ _ HMET.out).mono ?_
        rintro e w' ⟨rfl, rfl⟩
        go_wp2_with fail
        refine (windowBad_any met _ HMET.out).mono ?_
        rintro e w' ⟨rfl, rfl⟩
        go_wp2_with fail
        refine (HSAME1.out _ HB4.out).mono ?_
        rintro e w20 ⟨rfl, hb⟩
        have HB20 := Lib.hid (HB4.out.trans (hb.mono hg4))
        have hg20 : g ≤ w20.heap.size := by have := HB20.out.size; rw [← HG.out] at this; exact this
        clear hb
        go_wp2
        go_ret
        exact ⟨rfl, by have := HB20.out; rw [HG.out] at this; exact this⟩
  · have HSAMEc := HSAME1
    have HN := Lib.hid hn
    have HBAD := Lib.hid (show RetryBad n ps 1 from .inl ⟨hn, rfl⟩)
    clear hn
    go_enter Tryd.func5, Tryd.ntmps5
    go_wp2_with fail
    refine (in4_no _ _ _ _ HN.out).mono ?_
    rintro e w' ⟨rfl, rfl⟩
    go_wp2_with fail
    refine (retryRun_err n _ _ _ g ps 1 _ rfl (by omega) HA.out HBAD.out).mono ?_
    rintro e w' ⟨rfl, rfl⟩
    go_wp2_with fail
    refine (HSAMEc.out _ HB1.out).mono ?_
    rintro e w2 ⟨rfl, hb⟩
    have HB2 := Lib.hid (HB1.out.trans (hb.mono hg1))
    have hg2 : g ≤ w2.heap.size := by have := HB2.out.size; rw [← HG.out] at this; exact this
    clear hb
    go_wp2_with fail
    refine (ints_any _ _ _ _ _ _ 0 0 [] [] true _ (IntSl.nil _ _ _) (IntSl.nil _ _ _) rfl rfl (by decide) (by decide)).mono ?_
    rintro e w3 ⟨rfl, hd⟩
    have hb := below_of_drew hd
    clear hd
    have HB3 := Lib.hid (HB2.out.trans (hb.mono hg2))
    have hg3 : g ≤ w3.heap.size := by have := HB3.out.size; rw [← HG.out] at this; exact this
    clear hb
    go_wp2_with fail
    refine (ints_any _ _ _ _ _ _ 0 0 [] [] true _ (IntSl.nil _ _ _) (IntSl.nil _ _ _) rfl rfl (by decide) (by decide)).mono ?_
    rintro e w4 ⟨rfl, hd⟩
    have hb := below_of_drew hd
    clear hd
    have HB4 := Lib.hid (HB3.out.trans (hb.mono hg3))
    have hg4 : g ≤ w4.heap.size := by have := HB4.out.size; rw [← HG.out] at this; exact this
    clear hb
    by_cases hmet : 0 ≤ met ∧ met ≤ 200
    · obtain ⟨hmet0, hmet1⟩ := hmet
      obtain ⟨room, hroom⟩ : ∃ room, room = winOf met := ⟨_, rfl⟩
      have HROOM := Lib.hid hroom
      clear hroom
      have hrr : (room == room) = true := by simp
      go_wp2_with fail
      refine (in4_yes _ _ _ _ hmet0 hmet1).mono ?_
      rintro e w' ⟨rfl, rfl⟩
      go_wp2_with fail
      refine (room_any met hmet0 _).mono ?_
      rintro e w' ⟨rfl, rfl⟩
      rw [← HROOM.out]
      go_wp2_with fail
      refine (windowOk_any met _ hmet0 hmet1).mono ?_
      rintro e w' ⟨rfl, rfl⟩
      rw [← HROOM.out]
      go_wp2_with fail
      refine (HSAME0.out _ HB4.out).mono ?_
      rintro e w20 ⟨rfl, hb⟩
      have HB20 := Lib.hid (HB4.out.trans (hb.mono hg4))
      have hg20 : g ≤ w20.heap.size := by have := HB20.out.size; rw [← HG.out] at this; exact this
      clear hb
      go_wp2
      go_ret
      exact ⟨rfl, by have := HB20.out; rw [HG.out] at this; exact this⟩
    · have HMET := Lib.hid hmet
      clear hmet
      go_wp2_with fail
      refine (in4_no _ _ _ _ HMET.out).mono ?_
      rintro e w' ⟨rfl, rfl⟩
      go_wp2_with fail
      refine (windowBad_any met _ HMET.out).mono ?_
      rintro e w' ⟨rfl, rfl⟩
      go_wp2_with fail
      refine (HSAME1.out _ HB4.out).mono ?_
      rintro e w20 ⟨rfl, hb⟩
      have HB20 := Lib.hid (HB4.out.trans (hb.mono hg4))
      have hg20 : g ≤ w20.heap.size := by have := HB20.out.size; rw [← HG.out] at this; exact this
      clear hb
      go_wp2
      go_ret
      exact ⟨rfl, by have := HB20.out; rw [HG.out] at this; exact this⟩
end Go.Proofs.YthnlpmjfibidcaaDoor
