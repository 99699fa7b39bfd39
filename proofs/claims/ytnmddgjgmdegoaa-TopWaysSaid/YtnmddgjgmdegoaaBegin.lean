/- vector.begin: each point knows itself; all others are Far. -/
import Derived.Test.YtnmddgjgmdegoaaMat
import Derived.Test.YtnmddgjgmdegoaaRepeat
import Derived.Test.YtnmddgjgmdegoaaGraph
import Derived.Deep.LoopGhost
import Derived.Deep.DeepCutAuto
namespace Go.Proofs.Ytnmddgjgmdegoaa
open Go.RowKit
set_option linter.unusedVariables false

set_option maxHeartbeats 2000000 in
theorem begin_any (n : Nat) (hn : 1 ≤ n ∧ n ≤ 8) (w : World) :
    Calls Try.prog 60 #[.int .i64 n] w fun e w' => ∃ v P, e = .returned v ∧ Sep w.heap.size w' (matE v P n n base) ∧ Below w.heap.size w w' := by
  obtain ⟨h1, h8⟩ := hn
  obtain ⟨g, hg⟩ : ∃ g, g = w.heap.size := ⟨_, rfl⟩
  have HNIL := Lib.hid ((Sep.nil g w).rowNil 1 28)
  have HG := Lib.hid hg
  go_enter Try.func60, Try.ntmps60
  clear hg
  go_wp2
  go_loopg [3, 7] n (fun gk out i wr => ∃ (k : Nat) (vv : Value) (P : Nat → Nat × Nat × Nat), gk + k = n ∧ vv = out ∧ i = .int .i64 k ∧ Sep g wr (matE vv P k n base) ∧ Below g w wr)
  case atStart => exact ⟨0, _, fun _ => (0, 0, 0), by omega, rfl, rfl, HNIL.out, Below.refl _ _⟩
  case round =>
    obtain ⟨gi, rfl⟩ : ∃ gi, gi = gk := ⟨_, rfl⟩
    obtain ⟨k, v, P, hgk, rfl, rfl, hsep, hbel⟩ := hrel
    have HS := Lib.hid hsep; clear hsep
    have HB := Lib.hid hbel; clear hbel
    have hgr : g ≤ wr.heap.size := by have := HB.out.size; rw [← HG.out] at this; exact this
    by_cases hlt : k < n
    · have hki : (k : Int) < (n : Int) := by omega
      go_wp2_with fail
      have hsz1 : (wr.alloc (.cells #[.int .i64 1000] 3)).heap.size = wr.heap.size + 1 := by simp
      refine (repeat_any _ 1 (wr.heap.size + 1) 1000 n _ (intSl_new wr #[.int .i64 1000] _ [1000] rfl) (by rw [hsz1]; exact Nat.le_refl _) ⟨h1, h8⟩).mono ?_
      rintro e w2 ⟨vr, rfl, hs2, hb2⟩
      have hs3 := Sep.join (L := [_]) (HS.out.alloc (.cells #[.int .i64 1000] 3)) (by rw [hsz1]; omega) hb2 hs2
      have hb3 : Below g w w2 := (HB.out.alloc hgr _).trans (hb2.mono (by rw [hsz1]; omega))
      obtain ⟨ar, cr, rfl, hcr, _⟩ := Sep.intsShape (A := []) hs3
      simp only [List.length_replicate] at hcr hs3 ⊢
      rw [arr_const] at hs3
      obtain ⟨gr, orr, rfl, hgr2, c1, c2, hset⟩ := arrI_at (A := []) hs3 hlt
      have hset := hset 0
      have hrow : arr (fun i => if i = k then (0 : Int) else 1000) n = arr (base k) n := arr_congr fun j _ => by
        unfold base
        by_cases h : j = k
        · rw [if_pos h, if_pos h.symm]
        · rw [if_neg h, if_neg (fun e => h e.symm)]
      rw [hrow] at hset
      have hperm := hset.perm (List.perm_append_comm (l₁ := [_]) (l₂ := matE v P k n base))
      have hs4 : Sep g (w2.setCell ⟨gr, orr + k, none⟩ (.int .i64 0)) ([] ++ Ent.row v k 1 28 (arr (rowV P n) k) :: ((List.range k).map (matRow P n base) ++ [Ent.ints 3 (.slice (some ⟨gr, orr, none⟩) n cr) (arr (base k) n)])) := hperm
      have HS4 := Lib.hid hs4
      have HB4 := Lib.hid (hb3.setCell (p := ⟨gr, orr + k, none⟩) hgr2 (.int .i64 0))
      have hg4 : g ≤ (w2.setCell ⟨gr, orr + k, none⟩ (.int .i64 0)).heap.size := by have := HB4.out.size; rw [← HG.out] at this; exact this
      clear hs2 hb2 hs3 hb3 hset hrow hperm hs4 hsz1
      go_upto_region 7 with fail
      clear c1 c2
      generalize w2.setCell ⟨gr, orr + k, none⟩ (.int .i64 0) = w4 at *
      go_wp2_with (at_builtin; refine wpList_append_one (A := []) (v := v) (n := k) (y := .slice (some ⟨gr, orr, none⟩) n cr) (z := .slice none 0 0) (size := 1) (xs := arr (rowV P n) k) ?_ (.tmp 16) (.tmp 18) ?_ elemRow ?_ HS4.out ?_ ?_ ?_ ?_ ?_ ?_; rfl; rfl; rfl; exact hg4; rfl; rfl; omega; decide)
      intro v' w5 hs hb
      have hs6 := mat_push (p := (gr, orr, cr)) hs
      have HS6 := Lib.hid hs6
      have HB6 := Lib.hid (HB4.out.trans hb)
      clear hs hb hs6
      go_wp2
      go_roundg (gi - 1)
      case measure => omega
      case rel => exact ⟨k + 1, _, _, by omega, rfl, by first | rfl | go_num, HS6.out, HB6.out⟩
    · obtain rfl : k = n := by omega
      have hki : decide ((k : Int) < (k : Int)) = false := by simp
      go_wp2
      go_ret
      exact ⟨_, P, rfl, by have := HS.out; rw [HG.out] at this; exact this, by have := HB.out; rw [HG.out] at this; exact this⟩
end Go.Proofs.Ytnmddgjgmdegoaa
