/- (*lpm.Table).at: the node of a prefix. -/
import Derived.Test.YtbcfcjecobihnaaDoorLpmTab
import Derived.Test.YtbcfcjecobihnaaDoorLpBit
import Derived.Deep.LoopGhost
import Derived.Deep.DeepCutAuto
import Derived.BigQuiet
namespace Go.Proofs.YtbcfcjecobihnaaDoor
open Go.RowKit
set_option linter.unusedVariables false
set_option linter.unusedSimpArgs false
set_option maxRecDepth 100000

/-- The next bit of a path. -/
def lpb (a k : Nat) : Bool := a / 2 ^ (15 - k) % 2 == 1
theorem lpb_nat (a k : Nat) : a / 2 ^ (15 - k) % 2 = (lpb a k).toNat := (toNat_bit _).symm
theorem path_next (T : LT) (a k : Nat) : T.sub (lpPath a (k + 1)) = (T.sub (lpPath a k)).kid (lpb a k) := by
  rw [lpPath_succ, LT.sub_snoc]; rfl
theorem kid_cell {w : World} {b : Nat} {h : Int} {l r : LT} (c0 : w.cell? ⟨b, 0, none⟩ = some l.ptr) (c1 : w.cell? ⟨b, 1, none⟩ = some r.ptr) (x : Bool) : w.cell? ⟨b, x.toNat, none⟩ = some ((LT.node b h l r).kid x).ptr := by
  cases x
  · exact c0
  · exact c1

set_option maxHeartbeats 1000000 in
theorem lpmAt_any (B tb m : Nat) (T : LT) (F : List Ent) (a n : Nat) (w : World) (ha : a ≤ 65535) (hn : n ≤ 16) (hs : Sep B w (lptE tb m T ++ F)) :
    Calls Tryd.prog 38 #[.pointer (some ⟨tb, 0, none⟩), .agg #[.int .i64 a, .int .i64 n]] w fun e w' => e = .returned (T.sub (lpPath a n)).ptr ∧ Below w.heap.size w w' := by
  obtain ⟨W, hW⟩ : ∃ W, W = w.alloc (.cells #[.int .i64 (a : Int), .int .i64 (n : Int)] 34) := ⟨_, rfl⟩
  have hsW : Sep B W (lptE tb m T ++ F) := by rw [hW]; exact hs.alloc _
  have hbW : Below w.heap.size w W := by rw [hW]; exact below_alloc w _
  have hp0 : W.cell? ⟨w.heap.size, 0, none⟩ = some (.int .i64 (a : Int)) := by rw [hW, World.cell?_alloc_mark]; rfl
  have hp1 : W.cell? ⟨w.heap.size, 1, none⟩ = some (.int .i64 (n : Int)) := by rw [hW, World.cell?_alloc_mark]; rfl
  obtain ⟨t0, -⟩ := lpt_cells hsW
  have HSW := Lib.hid hsW
  have HBW := Lib.hid hbW
  have HW := Lib.hid hW
  have t0' := (lpt_cells hs).1
  obtain ⟨g, hg⟩ : ∃ g, g = w.heap.size := ⟨_, rfl⟩
  have HG := Lib.hid hg
  rw [← hg] at hp0 hp1
  clear hs hsW hbW hW hg
  go_enter Tryd.func38, Tryd.ntmps38
  go_upto_region 1 with fail
  rw [← HW.out, ← HG.out]
  go_wp2
  go_loopg [5, 6] n (fun gk p i wr => ∃ (k x : Nat), gk + k = n ∧ i = .int .i64 k ∧ p = (T.sub (lpPath a k)).ptr ∧ wr = W.drewN x)
  case atStart => exact ⟨0, 0, by omega, rfl, rfl, rfl⟩
  case round =>
    obtain ⟨gi, hgi0⟩ : ∃ gi, gi = gk := ⟨_, rfl⟩
    obtain ⟨k, x, hgk, rfl, hp, hwr⟩ := hrel
    subst hwr
    have HGK := Lib.hid hgk
    have hkn : k ≤ n := by omega
    clear hgk hgi0
    cases hk : T.sub (lpPath a k) with
    | nil =>
      rw [hk] at hp
      obtain rfl : _ = Value.pointer none := hp
      have hend : (T.sub (lpPath a n)).ptr = .pointer none := by
        have e : lpPath a n = lpPath a k ++ (lpPath a n).drop k := by
          have h1 : (lpPath a n).take k = lpPath a k := by
            unfold lpPath; rw [← List.map_take, List.take_range, Nat.min_eq_left hkn]
          rw [← h1, List.take_append_drop]
        rw [e, LT.sub_app, hk, LT.sub_nil]; rfl
      have HE := Lib.hid hend
      clear hk hend
      by_cases hlt : k < n
      · have d1 : decide ((k : Int) < (n : Int)) = true := decide_eq_true (by omega)
        go_wp2
        go_ret
        exact ⟨by rw [HE.out]; rfl, HBW.out.trans (below_drewN _ _ _)⟩
      · have d1 : decide ((k : Int) < (n : Int)) = false := decide_eq_false (by omega)
        have d1N : decide (k < n) = false := decide_eq_false hlt
        go_wp2
        go_ret
        exact ⟨by rw [HE.out]; rfl, HBW.out.trans (below_drewN _ _ _)⟩
    | node b h l r =>
      rw [hk] at hp
      obtain rfl : _ = Value.pointer (some ⟨b, 0, none⟩) := hp
      by_cases hlt : k < n
      · obtain ⟨⟨c0, c1, -⟩, -, -⟩ := nod_cells HSW.out hk
        have ck := kid_cell (h := h) c0 c1 (lpb a k)
        have hnx : T.sub (lpPath a (k + 1)) = (LT.node b h l r).kid (lpb a k) := by rw [path_next, hk]
        rw [← hnx] at ck
        have HBIT := Lib.hid (fun w' => lpbit_any a k w' ha (by omega))
        rw [lpb_nat] at HBIT
        obtain ⟨y, hy⟩ : ∃ y, y = (lpb a k).toNat := ⟨_, rfl⟩
        have hy2 : y < 2 := by rw [hy]; cases lpb a k <;> decide
        rw [← hy] at HBIT ck
        obtain ⟨pv, hpv⟩ : ∃ pv, pv = (T.sub (lpPath a (k + 1))).ptr := ⟨_, rfl⟩
        rw [← hpv] at ck
        have HPV := Lib.hid hpv
        have d1 : decide ((k : Int) < (n : Int)) = true := decide_eq_true (by omega)
        have hy0 : (0 : Int) ≤ (y : Int) := by omega
        have hy1 : (y : Int) < 2 := by omega
        clear hk hnx hy c0 c1 hpv
        go_upto_region 5 with fail
        go_quiet (first | (go_at_call 33; exact quiet_id (HBIT.out _) ⟨_, rfl⟩))
        go_wp2
        go_roundg (n - (k + 1))
        case measure => have := HGK.out; omega
        case rel =>
          exact ⟨k + 1, _, by omega, by go_num, HPV.out, rfl⟩
      · have d1 : decide ((k : Int) < (n : Int)) = false := decide_eq_false (by omega)
        have d1N : decide (k < n) = false := decide_eq_false hlt
        have hkn2 : k = n := by omega
        have hend : (T.sub (lpPath a n)).ptr = .pointer (some ⟨b, 0, none⟩) := by rw [← hkn2, hk]; rfl
        have HE := Lib.hid hend
        clear hk hend hkn2
        go_wp2
        go_ret
        exact ⟨by rw [HE.out]; rfl, HBW.out.trans (below_drewN _ _ _)⟩
end Go.Proofs.YtbcfcjecobihnaaDoor
