/- ferryhytheref1.Power, Prefix, In. -/
import Derived.Test.YtbcfcjecobihnaaDoorLpmChk
import Derived.Test.YtbcfcjecobihnaaDoorInR
import Derived.Test.YtbcfcjecobihnaaDoorRtPlain
import Derived.BigQuiet
import Derived.Deep.DeepCutAuto
namespace Go.Proofs.YtbcfcjecobihnaaDoor
open Go.RowKit
set_option linter.unusedVariables false
set_option linter.unusedSimpArgs false
set_option maxRecDepth 100000

theorem pow_next (k : Nat) (hk : k < 16) : (2 ^ k : Nat) ≤ 32768 ∧ 2 * 2 ^ k = 2 ^ (k + 1) :=
  ⟨Nat.pow_le_pow_right (by decide) (by omega : k ≤ 15), by rw [Nat.pow_succ]; omega⟩
theorem refPow_any (n : Nat) (hn : n ≤ 16) (w : World) : Calls Tryd.prog 46 #[.int .i64 (n : Int)] w fun e w' => e = .returned (.int .i64 ((2 ^ n : Nat) : Int)) ∧ w = w' := by
  go_enter Tryd.func46, Tryd.ntmps46
  go_wp2
  go_loop [3, 4] (fun pv iv => ∃ (k p : Nat), k ≤ n ∧ iv = .int .i64 k ∧ pv = .int .i64 (p : Int) ∧ Hid (p = 2 ^ k)) (fun _ iv => n - (intOf iv).toNat)
  case atStart => exact ⟨0, 1, Nat.zero_le _, rfl, rfl, Lib.hid rfl⟩
  case round =>
    obtain ⟨k, p, hk, rfl, rfl, hp⟩ := hrel
    by_cases hlt : k < n
    · have hki : (k : Int) < (n : Int) := by omega
      obtain ⟨h1, h2⟩ := pow_next k (by omega)
      rw [← hp.out] at h1 h2
      obtain ⟨q, hq⟩ : ∃ q, q = 2 * p := ⟨_, rfl⟩
      have hqI : 2 * (p : Int) = (q : Int) := by omega
      have hqw : IntKind.i64.wrap (q : Int) = (q : Int) := by simp [IntKind.wrap, IntKind.bits, IntKind.signed]; omega
      have H2 := Lib.hid (hq.trans h2)
      clear h2 hq
      go_wp2
      go_round
      case rel => exact ⟨k + 1, q, by omega, by go_num, rfl, Lib.hid H2.out⟩
      case measure => simp [intOf]; omega
    · obtain rfl : k = n := by omega
      have hki : decide ((k : Int) < (k : Int)) = false := by simp
      go_wp2
      go_ret
      exact ⟨ret_int (congrArg _ hp.out), rfl⟩
set_option maxHeartbeats 1000000 in
theorem refPre_range (a n : Int) (w : World) (h : ¬ (0 ≤ a ∧ a ≤ 65535 ∧ 0 ≤ n ∧ n ≤ 16)) :
    Calls Tryd.prog 34 #[.agg #[.int .i64 a, .int .i64 n]] w fun e w' => e = .returned (.int .i64 1) ∧ Below w.heap.size w w' := by
  by_cases h1 : 0 ≤ a ∧ a ≤ 65535
  · have HN : Hid (¬ (0 ≤ n ∧ n ≤ 16)) := Lib.hid (fun h2 => h ⟨h1.1, h1.2, h2.1, h2.2⟩)
    obtain ⟨ha1, ha2⟩ := h1
    clear h
    obtain ⟨W, hW⟩ : ∃ W, W = w.alloc (.cells #[.int .i64 a, .int .i64 n] 34) := ⟨_, rfl⟩
    have hbW : Below w.heap.size w W := by rw [hW]; exact below_alloc w _
    have hp0 : W.cell? ⟨w.heap.size, 0, none⟩ = some (.int .i64 a) := by rw [hW, World.cell?_alloc_mark]; rfl
    have hp1 : W.cell? ⟨w.heap.size, 1, none⟩ = some (.int .i64 n) := by rw [hW, World.cell?_alloc_mark]; rfl
    obtain ⟨g, hg⟩ : ∃ g, g = w.heap.size := ⟨_, rfl⟩
    have HBW := Lib.hid hbW
    have HW := Lib.hid hW
    have HG := Lib.hid hg
    rw [← hg] at hp0 hp1
    clear hbW hW hg
    go_enter Tryd.func34, Tryd.ntmps34
    go_upto_region 1 with fail
    rw [← HW.out, ← HG.out]
    go_wp2_with fail
    refine (inR_yes _ _ _ _ ha1 ha2).mono ?_
    rintro e w' ⟨rfl, rfl⟩
    go_wp2_with fail
    refine (inR_no _ _ _ _ HN.out).mono ?_
    rintro e w' ⟨rfl, rfl⟩
    go_wp2
    go_ret
    exact ⟨rfl, HBW.out⟩
  · have HN := Lib.hid h1
    clear h h1
    obtain ⟨W, hW⟩ : ∃ W, W = w.alloc (.cells #[.int .i64 a, .int .i64 n] 34) := ⟨_, rfl⟩
    have hbW : Below w.heap.size w W := by rw [hW]; exact below_alloc w _
    have hp0 : W.cell? ⟨w.heap.size, 0, none⟩ = some (.int .i64 a) := by rw [hW, World.cell?_alloc_mark]; rfl
    have hp1 : W.cell? ⟨w.heap.size, 1, none⟩ = some (.int .i64 n) := by rw [hW, World.cell?_alloc_mark]; rfl
    obtain ⟨g, hg⟩ : ∃ g, g = w.heap.size := ⟨_, rfl⟩
    have HBW := Lib.hid hbW
    have HW := Lib.hid hW
    have HG := Lib.hid hg
    rw [← hg] at hp0 hp1
    clear hbW hW hg
    go_enter Tryd.func34, Tryd.ntmps34
    go_upto_region 1 with fail
    rw [← HW.out, ← HG.out]
    go_wp2_with fail
    refine (inR_no _ _ _ _ HN.out).mono ?_
    rintro e w' ⟨rfl, rfl⟩
    go_wp2
    go_ret
    exact ⟨rfl, HBW.out⟩
set_option maxHeartbeats 1000000 in
theorem refPre_in (a n : Nat) (w : World) (ha : a ≤ 65535) (hn : n ≤ 16) :
    Calls Tryd.prog 34 #[.agg #[.int .i64 a, .int .i64 n]] w fun e w' => e = .returned (.int .i64 (if ¬ a % 2 ^ (16 - n) = 0 then 3 else 0)) ∧ Below w.heap.size w w' := by
  have ha1 : (0 : Int) ≤ (a : Int) := by omega
  have ha2 : (a : Int) ≤ 65535 := by omega
  have hn1 : (0 : Int) ≤ (n : Int) := by omega
  have hn2 : (n : Int) ≤ 16 := by omega
  obtain ⟨m, hm⟩ : ∃ m, m = 2 ^ (16 - n) := ⟨_, rfl⟩
  have hm1 : m ≤ 65536 := by rw [hm]; exact pow16_le n
  have hm0 : 1 ≤ m := by rw [hm]; exact Nat.two_pow_pos _
  have hn16 : IntKind.i64.wrap (16 - (n : Int)) = ((16 - n : Nat) : Int) := by simp [IntKind.wrap, IntKind.bits, IntKind.signed]; omega
  have hn16' : (16 : Int) - (n : Int) = ((16 - n : Nat) : Int) := by omega
  have hn16'' : IntKind.i64.wrap ((16 - n : Nat) : Int) = ((16 - n : Nat) : Int) := by simp [IntKind.wrap, IntKind.bits, IntKind.signed]; omega
  have hpw : ∀ w1 : World, Calls Tryd.prog 46 #[.int .i64 ((16 - n : Nat) : Int)] w1 fun e w' => e = .returned (.int .i64 (m : Int)) ∧ w1 = w' := fun w1 => by rw [hm]; exact refPow_any _ (by omega) w1
  obtain ⟨n', hn'⟩ : ∃ n', n' = 16 - n := ⟨_, rfl⟩
  rw [← hn'] at hn16 hn16' hn16'' hpw
  have HPW := Lib.hid hpw
  clear hpw hn'
  rw [← hm]
  clear hm
  obtain ⟨r, hr⟩ : ∃ r, r = a % m := ⟨_, rfl⟩
  have hrI : (a : Int) % (m : Int) = (r : Int) := by rw [hr]; simp
  have hrT : (a : Int).tmod (m : Int) = (r : Int) := by rw [hr]; simp [Int.tmod_eq_emod_of_nonneg]
  have hr1 : r < m := by rw [hr]; exact Nat.mod_lt _ hm0
  rw [← hr]
  clear hr
  have hmI : ((m : Int) == 0) = false := by simp; omega
  have hmne : ¬ (m : Int) = 0 := by omega
  have hmn : ¬ m = 0 := by omega
  have hrw : IntKind.i64.wrap (r : Int) = (r : Int) := by simp [IntKind.wrap, IntKind.bits, IntKind.signed]; omega
  by_cases hr0 : r = 0
  · have hd : ((r : Int) != 0) = false := by simp [hr0]
    rw [if_neg (by simpa using hr0)]
    clear hr0
    obtain ⟨W, hW⟩ : ∃ W, W = w.alloc (.cells #[.int .i64 (a : Int), .int .i64 (n : Int)] 34) := ⟨_, rfl⟩
    have hbW : Below w.heap.size w W := by rw [hW]; exact below_alloc w _
    have hp0 : W.cell? ⟨w.heap.size, 0, none⟩ = some (.int .i64 (a : Int)) := by rw [hW, World.cell?_alloc_mark]; rfl
    have hp1 : W.cell? ⟨w.heap.size, 1, none⟩ = some (.int .i64 (n : Int)) := by rw [hW, World.cell?_alloc_mark]; rfl
    obtain ⟨g, hg⟩ : ∃ g, g = w.heap.size := ⟨_, rfl⟩
    have HBW := Lib.hid hbW
    have HW := Lib.hid hW
    have HG := Lib.hid hg
    rw [← hg] at hp0 hp1
    clear hbW hW hg
    go_enter Tryd.func34, Tryd.ntmps34
    go_upto_region 1 with fail
    rw [← HW.out, ← HG.out]
    go_wp2_with fail
    refine (inR_yes _ _ _ _ ha1 ha2).mono ?_
    rintro e w' ⟨rfl, rfl⟩
    go_wp2_with fail
    refine (inR_yes _ _ _ _ hn1 hn2).mono ?_
    rintro e w' ⟨rfl, rfl⟩
    go_upto_region 3 with fail
    go_quiet (first | (go_at_call 46; exact quiet_id (HPW.out _) ⟨_, rfl⟩))
    go_wp2
    go_ret
    exact ⟨rfl, HBW.out.trans ((below_drewN _ _ _).mono HBW.out.size)⟩
  · have hd : ((r : Int) != 0) = true := by simp [hr0]
    rw [if_pos hr0]
    clear hr0
    obtain ⟨W, hW⟩ : ∃ W, W = w.alloc (.cells #[.int .i64 (a : Int), .int .i64 (n : Int)] 34) := ⟨_, rfl⟩
    have hbW : Below w.heap.size w W := by rw [hW]; exact below_alloc w _
    have hp0 : W.cell? ⟨w.heap.size, 0, none⟩ = some (.int .i64 (a : Int)) := by rw [hW, World.cell?_alloc_mark]; rfl
    have hp1 : W.cell? ⟨w.heap.size, 1, none⟩ = some (.int .i64 (n : Int)) := by rw [hW, World.cell?_alloc_mark]; rfl
    obtain ⟨g, hg⟩ : ∃ g, g = w.heap.size := ⟨_, rfl⟩
    have HBW := Lib.hid hbW
    have HW := Lib.hid hW
    have HG := Lib.hid hg
    rw [← hg] at hp0 hp1
    clear hbW hW hg
    go_enter Tryd.func34, Tryd.ntmps34
    go_upto_region 1 with fail
    rw [← HW.out, ← HG.out]
    go_wp2_with fail
    refine (inR_yes _ _ _ _ ha1 ha2).mono ?_
    rintro e w' ⟨rfl, rfl⟩
    go_wp2_with fail
    refine (inR_yes _ _ _ _ hn1 hn2).mono ?_
    rintro e w' ⟨rfl, rfl⟩
    go_upto_region 3 with fail
    go_quiet (first | (go_at_call 46; exact quiet_id (HPW.out _) ⟨_, rfl⟩))
    go_wp2
    go_ret
    exact ⟨rfl, HBW.out.trans ((below_drewN _ _ _).mono HBW.out.size)⟩
theorem refPre_any (a n : Int) (w : World) :
    Calls Tryd.prog 34 #[.agg #[.int .i64 a, .int .i64 n]] w fun e w' => e = .returned (.int .i64 (chkP a n)) ∧ Below w.heap.size w w' := by
  unfold chkP
  by_cases h : 0 ≤ a ∧ a ≤ 65535 ∧ 0 ≤ n ∧ n ≤ 16
  · rw [if_neg (fun h' => h' h)]
    obtain ⟨x, rfl⟩ := Int.eq_ofNat_of_zero_le h.1
    obtain ⟨k, rfl⟩ := Int.eq_ofNat_of_zero_le h.2.2.1
    rw [Int.toNat_natCast, Int.toNat_natCast]
    exact refPre_in x k w (by omega) (by omega)
  · rw [if_pos h]; exact refPre_range a n w h
set_option maxHeartbeats 1000000 in
theorem refIn_any (x : Rte) (a : Nat) (w : World) (hk : lpOk x.1 x.2.1) (ha : a ≤ 65535) :
    Calls Tryd.prog 31 #[.agg #[.int .i64 x.1, .int .i64 x.2.1], .int .i64 a] w fun e w' => e = .returned (.bool (decide (x.1 ≤ a ∧ a < x.1 + 2 ^ (16 - x.2.1)))) ∧ Below w.heap.size w w' := by
  obtain ⟨x1, n, h⟩ := x
  obtain ⟨h1, hn, -⟩ := hk
  simp only at h1 hn ⊢
  obtain ⟨m, hm⟩ : ∃ m, m = 2 ^ (16 - n) := ⟨_, rfl⟩
  have hm1 : m ≤ 65536 := by rw [hm]; exact pow16_le n
  have hm0 : 1 ≤ m := by rw [hm]; exact Nat.two_pow_pos _
  have hn16 : IntKind.i64.wrap (16 - (n : Int)) = ((16 - n : Nat) : Int) := by simp [IntKind.wrap, IntKind.bits, IntKind.signed]; omega
  have hn16' : (16 : Int) - (n : Int) = ((16 - n : Nat) : Int) := by omega
  have hn16'' : IntKind.i64.wrap ((16 - n : Nat) : Int) = ((16 - n : Nat) : Int) := by simp [IntKind.wrap, IntKind.bits, IntKind.signed]; omega
  have hpw : ∀ w1 : World, Calls Tryd.prog 46 #[.int .i64 ((16 - n : Nat) : Int)] w1 fun e w' => e = .returned (.int .i64 (m : Int)) ∧ w1 = w' := fun w1 => by rw [hm]; exact refPow_any _ (by omega) w1
  obtain ⟨n', hn'⟩ : ∃ n', n' = 16 - n := ⟨_, rfl⟩
  rw [← hn'] at hn16 hn16' hn16'' hpw
  have HPW := Lib.hid hpw
  clear hpw hn'
  rw [← hm]
  clear hm
  obtain ⟨s, hs⟩ : ∃ s, s = x1 + m := ⟨_, rfl⟩
  rw [← hs]
  have hsI : (x1 : Int) + (m : Int) = (s : Int) := by omega
  have hsw : IntKind.i64.wrap (s : Int) = (s : Int) := by simp [IntKind.wrap, IntKind.bits, IntKind.signed]; omega
  clear hs
  obtain ⟨W, hW⟩ : ∃ W, W = w.alloc (.cells #[.int .i64 (x1 : Int), .int .i64 (n : Int)] 34) := ⟨_, rfl⟩
  have hbW : Below w.heap.size w W := by rw [hW]; exact below_alloc w _
  have hp0 : W.cell? ⟨w.heap.size, 0, none⟩ = some (.int .i64 (x1 : Int)) := by rw [hW, World.cell?_alloc_mark]; rfl
  have hp1 : W.cell? ⟨w.heap.size, 1, none⟩ = some (.int .i64 (n : Int)) := by rw [hW, World.cell?_alloc_mark]; rfl
  obtain ⟨g, hg⟩ : ∃ g, g = w.heap.size := ⟨_, rfl⟩
  have HBW := Lib.hid hbW
  have HW := Lib.hid hW
  have HG := Lib.hid hg
  rw [← hg] at hp0 hp1
  clear hbW hW hg
  by_cases g1 : x1 ≤ a
  · have e1 : decide ((x1 : Int) ≤ (a : Int)) = true := decide_eq_true (by omega)
    have e1' : decide (x1 ≤ a) = true := decide_eq_true g1
    by_cases g2 : a < s
    · have e2 : decide ((a : Int) < (s : Int)) = true := decide_eq_true (by omega)
      have e2' : decide (a < s) = true := decide_eq_true g2
      rw [show decide (x1 ≤ a ∧ a < s) = true from decide_eq_true ⟨g1, g2⟩]
      clear g1 g2
      go_enter Tryd.func31, Tryd.ntmps31
      go_upto_region 1 with fail
      rw [← HW.out, ← HG.out]
      go_quiet (first | (go_at_call 46; exact quiet_id (HPW.out _) ⟨_, rfl⟩))
      go_wp2
      go_ret
      exact ⟨rfl, HBW.out.trans ((below_drewN _ _ _).mono HBW.out.size)⟩
    · have e2 : decide ((a : Int) < (s : Int)) = false := decide_eq_false (by omega)
      have e2' : decide (a < s) = false := decide_eq_false g2
      rw [show decide (x1 ≤ a ∧ a < s) = false from decide_eq_false fun h => g2 h.2]
      clear g1 g2
      go_enter Tryd.func31, Tryd.ntmps31
      go_upto_region 1 with fail
      rw [← HW.out, ← HG.out]
      go_quiet (first | (go_at_call 46; exact quiet_id (HPW.out _) ⟨_, rfl⟩))
      go_wp2
      go_ret
      exact ⟨rfl, HBW.out.trans ((below_drewN _ _ _).mono HBW.out.size)⟩
  · have e1 : decide ((x1 : Int) ≤ (a : Int)) = false := decide_eq_false (by omega)
    have e1' : decide (x1 ≤ a) = false := decide_eq_false g1
    rw [show decide (x1 ≤ a ∧ a < s) = false from decide_eq_false fun h => g1 h.1]
    clear g1
    go_enter Tryd.func31, Tryd.ntmps31
    go_upto_region 1 with fail
    rw [← HW.out, ← HG.out]
    go_quiet (fail)
    go_wp2
    go_ret
    exact ⟨rfl, HBW.out.trans ((below_drewN _ _ _).mono HBW.out.size)⟩
end Go.Proofs.YtbcfcjecobihnaaDoor
