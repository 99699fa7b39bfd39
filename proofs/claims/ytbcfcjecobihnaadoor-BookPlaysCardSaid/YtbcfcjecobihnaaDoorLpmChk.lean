/- cidr.size, cidr.Check. -/
import Derived.Test.YtbcfcjecobihnaaDoorLpmPlain
import Derived.Test.YtbcfcjecobihnaaDoorLpBit
import Derived.Test.YtbcfcjecobihnaaDoorWithin
import Derived.Test.YtbcfcjecobihnaaDoorStp
import Derived.Deep.DeepCutAuto
import Derived.BigQuiet
import Derived.Deep.RegionHeld3
namespace Go.Proofs.YtbcfcjecobihnaaDoor
open Go.RowKit
set_option linter.unusedVariables false
set_option linter.unusedSimpArgs false
set_option maxRecDepth 100000

/-- What is wrong with a prefix. -/
def chkP (a n : Int) : Int := if ¬ (0 ≤ a ∧ a ≤ 65535 ∧ 0 ≤ n ∧ n ≤ 16) then 1 else if ¬ a.toNat % 2 ^ (16 - n.toNat) = 0 then 3 else 0
theorem chkP_ok {a n : Int} (h : chkP a n = 0) : ∃ x k : Nat, a = (x : Int) ∧ n = (k : Int) ∧ lpOk x k := by
  unfold chkP at h
  split at h
  · cases h
  · rename_i h1
    have h1 : 0 ≤ a ∧ a ≤ 65535 ∧ 0 ≤ n ∧ n ≤ 16 := by omega
    split at h
    · cases h
    · rename_i h2
      refine ⟨a.toNat, n.toNat, by omega, by omega, by omega, by omega, by omega⟩
theorem chkP_of {x k : Nat} (h : lpOk x k) : chkP (x : Int) (k : Int) = 0 := by
  unfold chkP
  rw [if_neg (by have := h.1; have := h.2.1; omega), if_neg (by rw [Int.toNat_natCast, Int.toNat_natCast]; have := h.2.2; omega)]

theorem pow16_le (n : Nat) : (2 ^ (16 - n) : Nat) ≤ 65536 := Nat.pow_le_pow_right (by decide) (by omega : 16 - n ≤ 16)
theorem wrap_pow16 (n : Nat) : wrap64 ((2 : Int) ^ (16 - n)) = ((2 ^ (16 - n) : Nat) : Int) := by
  have h := pow16_le n
  have e : ((2 : Int) ^ (16 - n)) = ((2 ^ (16 - n) : Nat) : Int) := by simp
  rw [e]
  generalize 2 ^ (16 - n) = m at *
  unfold wrap64; omega
set_option maxHeartbeats 400000 in
theorem cidrSize_any (a : Int) (n : Nat) (w : World) (hn : n ≤ 16) :
    Calls Tryd.prog 47 #[.agg #[.int .i64 a, .int .i64 n]] w fun e w' => e = .returned (.int .i64 ((2 ^ (16 - n) : Nat) : Int)) ∧ Below w.heap.size w w' := by
  have HP := Lib.hid (wrap_pow16 n)
  go_enter Tryd.func47, Tryd.ntmps47
  go_wp2
  go_ret
  exact ⟨ret_int HP.out, below_alloc w _⟩

set_option maxHeartbeats 1000000 in
theorem check_range (a n : Int) (w : World) (h : ¬ (0 ≤ a ∧ a ≤ 65535 ∧ 0 ≤ n ∧ n ≤ 16)) :
    Calls Tryd.prog 37 #[.agg #[.int .i64 a, .int .i64 n]] w fun e w' => e = .returned (errV 1) ∧ Below w.heap.size w w' := by
  rw [errV_not (by decide)]
  by_cases h1 : 0 ≤ a ∧ a ≤ 65535
  · have HN : Hid (¬ (0 ≤ n ∧ n ≤ 16)) := Lib.hid (fun h2 => h ⟨h1.1, h1.2, h2.1, h2.2⟩)
    obtain ⟨ha1, ha2⟩ := h1
    clear h
    obtain ⟨W, hW⟩ : ∃ W, W = w.alloc (.cells #[.int .i64 a, .int .i64 n] 34) := ⟨_, rfl⟩
    have hbW : Below w.heap.size w W := by rw [hW]; exact below_alloc w _
    have hp0 : W.cell? ⟨w.heap.size, 0, none⟩ = some (.int .i64 a) := by rw [hW, World.cell?_alloc_mark]; rfl
    have hp1 : W.cell? ⟨w.heap.size, 1, none⟩ = some (.int .i64 n) := by rw [hW, World.cell?_alloc_mark]; rfl
    have hgW : w.heap.size < W.heap.size := by rw [hW]; simp
    obtain ⟨g, hg⟩ : ∃ g, g = w.heap.size := ⟨_, rfl⟩
    have HBW := Lib.hid hbW
    have HW := Lib.hid hW
    have HG := Lib.hid hg
    rw [← hg] at hp0 hp1 hgW
    clear hbW hW hg
    go_enter Tryd.func37, Tryd.ntmps37
    go_upto_region 1 with fail
    rw [← HW.out, ← HG.out]
    go_wp2_with fail
    refine (within_yes _ _ _ _ ha1 ha2).mono ?_
    rintro e w' ⟨rfl, rfl⟩
    go_wp2_with fail
    refine (within_no _ _ _ _ HN.out).mono ?_
    rintro e w' ⟨rfl, rfl⟩
    go_wp2
    go_ret
    exact ⟨rfl, HBW.out⟩
  · have HN := Lib.hid h1
    clear h h1
    obtain ⟨W, hW⟩ : ∃ W, W = w.alloc (.cells #[.int .i64 a, .int .i64 n] 34) := ⟨_, rfl⟩
    have hbW : Below w.heap.size w W := by rw [hW]; exact below_alloc w _
    have hp0 : W.cell? ⟨w.heap.size, 0, none⟩ = some (.int .i64 a) := by rw [hW, World.cell?_alloc_mark]; rfl
    have hp1 : W.cell? ⟨w.heap.size, 1, none⟩ = some (.int .i64 n) := by rw [hW, World.cell?_alloc_mark]; rfl
    have hgW : w.heap.size < W.heap.size := by rw [hW]; simp
    obtain ⟨g, hg⟩ : ∃ g, g = w.heap.size := ⟨_, rfl⟩
    have HBW := Lib.hid hbW
    have HW := Lib.hid hW
    have HG := Lib.hid hg
    rw [← hg] at hp0 hp1 hgW
    clear hbW hW hg
    go_enter Tryd.func37, Tryd.ntmps37
    go_upto_region 1 with fail
    rw [← HW.out, ← HG.out]
    go_wp2_with fail
    refine (within_no _ _ _ _ HN.out).mono ?_
    rintro e w' ⟨rfl, rfl⟩
    go_wp2
    go_ret
    exact ⟨rfl, HBW.out⟩
set_option maxHeartbeats 1000000 in
theorem check_in (a n : Nat) (w : World) (ha : a ≤ 65535) (hn : n ≤ 16) :
    Calls Tryd.prog 37 #[.agg #[.int .i64 a, .int .i64 n]] w fun e w' => e = .returned (errV (if ¬ a % 2 ^ (16 - n) = 0 then 3 else 0)) ∧ Below w.heap.size w w' := by
  have ha1 : (0 : Int) ≤ (a : Int) := by omega
  have ha2 : (a : Int) ≤ 65535 := by omega
  have hn1 : (0 : Int) ≤ (n : Int) := by omega
  have hn2 : (n : Int) ≤ 16 := by omega
  obtain ⟨m, hm⟩ : ∃ m, m = 2 ^ (16 - n) := ⟨_, rfl⟩
  have hm1 : m ≤ 65536 := by rw [hm]; exact pow16_le n
  have hm0 : 1 ≤ m := by rw [hm]; exact Nat.two_pow_pos _
  have hsz : ∀ w1 : World, Calls Tryd.prog 47 #[.agg #[.int .i64 a, .int .i64 n]] w1 fun e w' => e = .returned (.int .i64 (m : Int)) ∧ Below w1.heap.size w1 w' := fun w1 => by rw [hm]; exact cidrSize_any _ n w1 hn
  have HSZ := Lib.hid hsz
  rw [← hm]
  clear hm hsz
  obtain ⟨r, hr⟩ : ∃ r, r = a % m := ⟨_, rfl⟩
  have hrI : (a : Int) % (m : Int) = (r : Int) := by rw [hr]; simp
  have hrT : (a : Int).tmod (m : Int) = (r : Int) := by rw [hr]; simp [Int.tmod_eq_emod_of_nonneg]
  have hr1 : r < m := by rw [hr]; exact Nat.mod_lt _ hm0
  rw [← hr]
  clear hr
  have hmI : ((m : Int) == 0) = false := by simp; omega
  have hmne : ¬ (m : Int) = 0 := by omega
  have hmn : ¬ m = 0 := by omega
  have hrw : IntKind.i64.wrap (r : Int) = (r : Int) := by simp [IntKind.wrap, IntKind.bits, IntKind.signed]; omega
  by_cases hr0 : r = 0
  · have hd : ((r : Int) != 0) = false := by simp [hr0]
    rw [if_neg (by simpa using hr0), errV_zero]
    clear hr0
    obtain ⟨W, hW⟩ : ∃ W, W = w.alloc (.cells #[.int .i64 (a : Int), .int .i64 (n : Int)] 34) := ⟨_, rfl⟩
    have hbW : Below w.heap.size w W := by rw [hW]; exact below_alloc w _
    have hp0 : W.cell? ⟨w.heap.size, 0, none⟩ = some (.int .i64 (a : Int)) := by rw [hW, World.cell?_alloc_mark]; rfl
    have hp1 : W.cell? ⟨w.heap.size, 1, none⟩ = some (.int .i64 (n : Int)) := by rw [hW, World.cell?_alloc_mark]; rfl
    have hgW : w.heap.size < W.heap.size := by rw [hW]; simp
    obtain ⟨g, hg⟩ : ∃ g, g = w.heap.size := ⟨_, rfl⟩
    have HBW := Lib.hid hbW
    have HW := Lib.hid hW
    have HG := Lib.hid hg
    rw [← hg] at hp0 hp1 hgW
    clear hbW hW hg
    go_enter Tryd.func37, Tryd.ntmps37
    go_upto_region 1 with fail
    rw [← HW.out, ← HG.out]
    go_wp2_with fail
    refine (within_yes _ _ _ _ ha1 ha2).mono ?_
    rintro e w' ⟨rfl, rfl⟩
    go_wp2_with fail
    refine (within_yes _ _ _ _ hn1 hn2).mono ?_
    rintro e w' ⟨rfl, rfl⟩
    go_upto_region 3 with fail
    have HK0 := Lib.hid (show W.drew.cell? ⟨g, 0, none⟩ = some (.int .i64 (a : Int)) ∧ W.drew.cell? ⟨g, 1, none⟩ = some (.int .i64 (n : Int)) ∧ Below g w W.drew from ⟨hp0, hp1, by rw [HG.out]; exact HBW.out.trans (below_drew _ _)⟩)
    have HNX := Lib.hid (fun (w5 : World) (hb : Below W.drew.heap.size W.drew w5) => show w5.cell? ⟨g, 0, none⟩ = some (.int .i64 (a : Int)) ∧ w5.cell? ⟨g, 1, none⟩ = some (.int .i64 (n : Int)) ∧ Below g w w5 from
      ⟨(hb.cell (p := ⟨g, 0, none⟩) hgW).trans HK0.out.1, (hb.cell (p := ⟨g, 1, none⟩) hgW).trans HK0.out.2.1, HK0.out.2.2.trans (hb.mono (Nat.le_of_lt hgW))⟩)
    go_region_held3 (fun w' => w'.cell? ⟨g, 0, none⟩ = some (.int .i64 (a : Int)) ∧ w'.cell? ⟨g, 1, none⟩ = some (.int .i64 (n : Int)) ∧ Below g w w')
      (first | exact HK1.out | exact HK0.out) (first
      | (go_at_call 47; refine (HSZ.out _).mono ?_; rintro e w5 ⟨rfl, hb5⟩; have HK1 := Lib.hid (HNX.out _ hb5); clear hb5)
      | fail)
    all_goals
      go_wp2
      go_ret
      exact ⟨rfl, by have := HK1.out.2.2; rw [HG.out] at this; exact this⟩
  · have hd : ((r : Int) != 0) = true := by simp [hr0]
    rw [if_pos hr0, errV_not (by decide)]
    clear hr0
    obtain ⟨W, hW⟩ : ∃ W, W = w.alloc (.cells #[.int .i64 (a : Int), .int .i64 (n : Int)] 34) := ⟨_, rfl⟩
    have hbW : Below w.heap.size w W := by rw [hW]; exact below_alloc w _
    have hp0 : W.cell? ⟨w.heap.size, 0, none⟩ = some (.int .i64 (a : Int)) := by rw [hW, World.cell?_alloc_mark]; rfl
    have hp1 : W.cell? ⟨w.heap.size, 1, none⟩ = some (.int .i64 (n : Int)) := by rw [hW, World.cell?_alloc_mark]; rfl
    have hgW : w.heap.size < W.heap.size := by rw [hW]; simp
    obtain ⟨g, hg⟩ : ∃ g, g = w.heap.size := ⟨_, rfl⟩
    have HBW := Lib.hid hbW
    have HW := Lib.hid hW
    have HG := Lib.hid hg
    rw [← hg] at hp0 hp1 hgW
    clear hbW hW hg
    go_enter Tryd.func37, Tryd.ntmps37
    go_upto_region 1 with fail
    rw [← HW.out, ← HG.out]
    go_wp2_with fail
    refine (within_yes _ _ _ _ ha1 ha2).mono ?_
    rintro e w' ⟨rfl, rfl⟩
    go_wp2_with fail
    refine (within_yes _ _ _ _ hn1 hn2).mono ?_
    rintro e w' ⟨rfl, rfl⟩
    go_upto_region 3 with fail
    have HK0 := Lib.hid (show W.drew.cell? ⟨g, 0, none⟩ = some (.int .i64 (a : Int)) ∧ W.drew.cell? ⟨g, 1, none⟩ = some (.int .i64 (n : Int)) ∧ Below g w W.drew from ⟨hp0, hp1, by rw [HG.out]; exact HBW.out.trans (below_drew _ _)⟩)
    have HNX := Lib.hid (fun (w5 : World) (hb : Below W.drew.heap.size W.drew w5) => show w5.cell? ⟨g, 0, none⟩ = some (.int .i64 (a : Int)) ∧ w5.cell? ⟨g, 1, none⟩ = some (.int .i64 (n : Int)) ∧ Below g w w5 from
      ⟨(hb.cell (p := ⟨g, 0, none⟩) hgW).trans HK0.out.1, (hb.cell (p := ⟨g, 1, none⟩) hgW).trans HK0.out.2.1, HK0.out.2.2.trans (hb.mono (Nat.le_of_lt hgW))⟩)
    go_region_held3 (fun w' => w'.cell? ⟨g, 0, none⟩ = some (.int .i64 (a : Int)) ∧ w'.cell? ⟨g, 1, none⟩ = some (.int .i64 (n : Int)) ∧ Below g w w')
      (first | exact HK1.out | exact HK0.out) (first
      | (go_at_call 47; refine (HSZ.out _).mono ?_; rintro e w5 ⟨rfl, hb5⟩; have HK1 := Lib.hid (HNX.out _ hb5); clear hb5)
      | fail)
    all_goals
      go_wp2
      go_ret
      exact ⟨rfl, by have := HK1.out.2.2; rw [HG.out] at this; exact this⟩
theorem check_any (a n : Int) (w : World) :
    Calls Tryd.prog 37 #[.agg #[.int .i64 a, .int .i64 n]] w fun e w' => e = .returned (errV (chkP a n)) ∧ Below w.heap.size w w' := by
  unfold chkP
  by_cases h : 0 ≤ a ∧ a ≤ 65535 ∧ 0 ≤ n ∧ n ≤ 16
  · rw [if_neg (fun h' => h' h)]
    obtain ⟨x, rfl⟩ := Int.eq_ofNat_of_zero_le h.1
    obtain ⟨k, rfl⟩ := Int.eq_ofNat_of_zero_le h.2.2.1
    rw [Int.toNat_natCast, Int.toNat_natCast]
    exact check_in x k w (by omega) (by omega)
  · rw [if_pos h]; exact check_range a n w h
end Go.Proofs.YtbcfcjecobihnaaDoor
