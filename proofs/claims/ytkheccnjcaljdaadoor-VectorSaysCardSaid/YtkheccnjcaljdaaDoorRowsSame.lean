/- ferryhythesame.Rows of tables of numbers; a table of three rows laid out in new blocks. -/
import Derived.Test.YtkheccnjcaljdaaDoorMatR
import Derived.Test.YtkheccnjcaljdaaDoorInts
import Derived.Deep.LoopGhost
import Derived.BigQuiet
namespace Go.Proofs.YtkheccnjcaljdaaDoor
open Go.RowKit
set_option linter.unusedVariables false

theorem matR_lit (w : World) (e e2 : TypeId) (M : Nat → Nat → Int) (g : Nat) (hg : g = w.heap.size) :
    MatR (g + 4) ((((w.alloc (.cells #[.int .i64 (M 0 0), .int .i64 (M 0 1), .int .i64 (M 0 2)] e)).alloc (.cells #[.int .i64 (M 1 0), .int .i64 (M 1 1), .int .i64 (M 1 2)] e)).alloc (.cells #[.int .i64 (M 2 0), .int .i64 (M 2 1), .int .i64 (M 2 2)] e)).alloc
      (.cells #[.slice (some ⟨g, 0, none⟩) 3 3, .slice (some ⟨g + 1, 0, none⟩) 3 3, .slice (some ⟨g + 1 + 1, 0, none⟩) 3 3] e2)) (some ⟨g + 1 + 1 + 1, 0, none⟩) (fun i => (g + i, 0, 3)) 3 3 M := by
  subst hg
  have s1 := Sep.blkNew (Sep.nil w.heap.size w) (Nat.le_refl _) #[.int .i64 (M 0 0), .int .i64 (M 0 1), .int .i64 (M 0 2)] e
  have z1 : (w.alloc (.cells #[.int .i64 (M 0 0), .int .i64 (M 0 1), .int .i64 (M 0 2)] e)).heap.size = w.heap.size + 1 := by simp
  generalize w.alloc (.cells #[.int .i64 (M 0 0), .int .i64 (M 0 1), .int .i64 (M 0 2)] e) = w1 at *
  have s2 := Sep.blkNew s1 (by omega) #[.int .i64 (M 1 0), .int .i64 (M 1 1), .int .i64 (M 1 2)] e
  rw [z1] at s2
  have z2 : (w1.alloc (.cells #[.int .i64 (M 1 0), .int .i64 (M 1 1), .int .i64 (M 1 2)] e)).heap.size = w.heap.size + 1 + 1 := by simp [z1]
  generalize w1.alloc (.cells #[.int .i64 (M 1 0), .int .i64 (M 1 1), .int .i64 (M 1 2)] e) = w2 at *
  have s3 := Sep.blkNew s2 (by omega) #[.int .i64 (M 2 0), .int .i64 (M 2 1), .int .i64 (M 2 2)] e
  rw [z2] at s3
  have z3 : (w2.alloc (.cells #[.int .i64 (M 2 0), .int .i64 (M 2 1), .int .i64 (M 2 2)] e)).heap.size = w.heap.size + 1 + 1 + 1 := by simp [z2]
  generalize w2.alloc (.cells #[.int .i64 (M 2 0), .int .i64 (M 2 1), .int .i64 (M 2 2)] e) = w3 at *
  have s4 := Sep.blkNew s3 (by omega) #[.slice (some ⟨w.heap.size, 0, none⟩) 3 3, .slice (some ⟨w.heap.size + 1, 0, none⟩) 3 3, .slice (some ⟨w.heap.size + 1 + 1, 0, none⟩) 3 3] e2
  rw [z3] at s4
  generalize w3.alloc (.cells #[.slice (some ⟨w.heap.size, 0, none⟩) 3 3, .slice (some ⟨w.heap.size + 1, 0, none⟩) 3 3, .slice (some ⟨w.heap.size + 1 + 1, 0, none⟩) 3 3] e2) = w4 at *
  intro i hi
  have h3 : i = 0 ∨ i = 1 ∨ i = 2 := by omega
  rcases h3 with rfl | rfl | rfl
  · refine ⟨_, _, rfl, by omega, (Sep.blkAt (A := []) s4 (j := 0) rfl).1, (by show w.heap.size + 0 < _; omega), fun k hk => ?_⟩
    have h3 : k = 0 ∨ k = 1 ∨ k = 2 := by omega
    rcases h3 with rfl | rfl | rfl
    · exact (Sep.blkAt (A := [_, _, _]) s4 (j := 0) rfl).1
    · exact (Sep.blkAt (A := [_, _, _]) s4 (j := 1) rfl).1
    · exact (Sep.blkAt (A := [_, _, _]) s4 (j := 2) rfl).1
  · refine ⟨_, _, rfl, by omega, (Sep.blkAt (A := []) s4 (j := 1) rfl).1, (by show w.heap.size + 1 < _; omega), fun k hk => ?_⟩
    have h3 : k = 0 ∨ k = 1 ∨ k = 2 := by omega
    rcases h3 with rfl | rfl | rfl
    · exact (Sep.blkAt (A := [_, _]) s4 (j := 0) rfl).1
    · exact (Sep.blkAt (A := [_, _]) s4 (j := 1) rfl).1
    · exact (Sep.blkAt (A := [_, _]) s4 (j := 2) rfl).1
  · refine ⟨_, _, rfl, by omega, (Sep.blkAt (A := []) s4 (j := 2) rfl).1, (by show w.heap.size + 2 < _; omega), fun k hk => ?_⟩
    have h3 : k = 0 ∨ k = 1 ∨ k = 2 := by omega
    rcases h3 with rfl | rfl | rfl
    · exact (Sep.blkAt (A := [_]) s4 (j := 0) rfl).1
    · exact (Sep.blkAt (A := [_]) s4 (j := 1) rfl).1
    · exact (Sep.blkAt (A := [_]) s4 (j := 2) rfl).1

set_option maxHeartbeats 1000000 in
theorem rowsSame_any (ao bo : Option Addr) (ac bc m n B B' : Nat) (P Q : Nat → Nat × Nat × Nat) (M N : Nat → Nat → Int) (r : Bool) (w : World) (hA : MatR B w ao P m n M) (hB : MatR B' w bo Q m n N) (hm : m ≤ 1000000) (hn : n ≤ 1000000) (hr : r = true ↔ ∀ i j, i < m → j < n → M i j = N i j) :
    Calls Tryd.prog 15 #[.slice ao m ac, .slice bo m bc] w fun e w' => e = .returned (.bool r) ∧ ∃ q, w' = w.drewN q := by
  have HA := Lib.hid hA; clear hA
  have HB := Lib.hid hB; clear hB
  have HR := Lib.hid hr; clear hr
  have hnn : ((m : Int) != (m : Int)) = false := by simp
  go_enter Tryd.func15, Tryd.ntmps15
  go_wp2
  go_loopg [5] m (fun gk i wr => ∃ k q : Nat, gk + k = m ∧ i = .int .i64 k ∧ wr = w.drewN q ∧ Hid (∀ i j, i < k → j < n → M i j = N i j))
  case atStart => exact ⟨0, 0, by omega, rfl, rfl, fun i j hj => by omega⟩
  case round =>
    obtain ⟨gi, rfl⟩ : ∃ gi, gi = gk := ⟨_, rfl⟩
    obtain ⟨k, q, hgk, rfl, rfl, hno⟩ := hrel
    by_cases hlt : k < m
    · have hki : (k : Int) < (m : Int) := by omega
      have hk0 : (0 : Int) ≤ (k : Int) := by omega
      have HAq := HA.out.below (below_drewN B w q)
      have HBq := HB.out.below (below_drewN B' w q)
      obtain ⟨b1, o1, rfl, _, c1, _, _⟩ := HAq k hlt
      obtain ⟨b2, o2, rfl, _, c2, _, _⟩ := HBq k hlt
      unfold rowV at c1 c2
      obtain ⟨rr, hrr⟩ : ∃ rr, rr = decide (arr (M k) n = arr (N k) n) := ⟨_, rfl⟩
      have hcall : ∀ q2 : Nat, Calls Tryd.prog 9 #[.slice (some ⟨(P k).1, (P k).2.1, none⟩) n (P k).2.2, .slice (some ⟨(Q k).1, (Q k).2.1, none⟩) n (Q k).2.2] ((w.drewN q).drewN q2) fun e w' => e = .returned (.bool rr) ∧ ∃ q3, w' = ((w.drewN q).drewN q2).drewN q3 := fun q2 =>
        ints_any _ _ _ _ n n B B' (arr (M k) n) (arr (N k) n) rr _ ((HAq.row hlt).below (below_drewN B _ q2)) ((HBq.row hlt).below (below_drewN B' _ q2)) (arr_len _ _).symm (arr_len _ _).symm (by rw [arr_len]; omega) hrr
      have HRR := Lib.hid hrr
      clear hrr HAq HBq
      have hdd : ∀ q2, (w.drewN q).drewN q2 = w.drewN (q + q2) := fun q2 => by simp [World.drewN, Nat.add_assoc]
      have HDD := Lib.hid hdd; clear hdd
      have HC := Lib.hid hcall; clear hcall
      generalize hwr : w.drewN q = wr at *
      clear hwr
      cases rr with
      | true =>
        go_wp2_with fail
        go_quiet (first | (go_at_call 9; exact quiet_dr (HC.out _) (fun n => drewN_two _ _ _)))
        have HW := Lib.hid (HDD.out nq)
        clear c1 c2 HC
        generalize wr.drewN nq = wn at *
        go_wp2
        go_roundg (gi - 1)
        case measure => omega
        case rel => exact ⟨k + 1, q + nq, by omega, by first | rfl | go_num, HW.out, fun i j hi hj => by
          rcases Nat.lt_or_ge i k with h' | h'
          · exact hno.out i j h' hj
          · obtain rfl : i = k := by omega
            exact arr_eq_iff.1 (of_decide_eq_true HRR.out.symm) j hj⟩
      | false =>
        go_wp2_with fail
        go_quiet (first | (go_at_call 9; exact quiet_dr (HC.out _) (fun n => drewN_two _ _ _)))
        have HW := Lib.hid (HDD.out nq)
        clear c1 c2 HC
        generalize wr.drewN nq = wn at *
        go_wp2
        go_ret
        refine ⟨ret_bool ?_, _, HW.out⟩
        cases r with
        | false => rfl
        | true =>
          exfalso
          have h1 := HR.out.1 rfl
          exact (of_decide_eq_false HRR.out.symm) (arr_eq_iff.2 fun j hj => h1 k j hlt hj)
    · obtain rfl : k = m := by omega
      have hki : decide ((k : Int) < (k : Int)) = false := by simp
      go_wp2
      go_ret
      exact ⟨ret_bool (HR.out.2 hno.out).symm, q, rfl⟩
end Go.Proofs.YtkheccnjcaljdaaDoor
