/- slices.Equal, slices.EqualFunc of tables of numbers. -/
import Derived.Test.YtkheccnjcaljdaaDoorMatR
import Derived.Test.YtkheccnjcaljdaaDoorInts
import Derived.Deep.LoopGhost
import Derived.BigQuiet
namespace Go.Proofs.YtkheccnjcaljdaaDoor
open Go.RowKit
set_option linter.unusedVariables false

theorem drewN_add (w : World) (a b : Nat) : (w.drewN a).drewN b = w.drewN (a + b) := by
  simp [World.drewN, Nat.add_assoc]
set_option maxHeartbeats 1000000 in
theorem equal_any (ao bo : Option Addr) (ac bc n B B' : Nat) (f h : Nat → Int) (r : Bool) (w : World) (hA : IntSl B w ao (arr f n)) (hB : IntSl B' w bo (arr h n)) (hn : n ≤ 1000000) (hr : r = decide (arr f n = arr h n)) :
    Calls Tryd.prog 31 #[.slice ao n ac, .slice bo n bc] w fun e w' => e = .returned (.bool r) ∧ ∃ q, w' = w.drewN q := by
  have HA := Lib.hid hA; clear hA
  have HB := Lib.hid hB; clear hB
  have HR := Lib.hid hr; clear hr
  have hnn : ((n : Int) != (n : Int)) = false := by simp
  go_enter Tryd.func31, Tryd.ntmps31
  go_wp2
  go_loopg [13] n (fun gk i wr => ∃ k q : Nat, gk + k = n ∧ i = .int .i64 k ∧ wr = w.drewN q ∧ Hid (∀ j, j < k → f j = h j))
  case atStart => exact ⟨0, 0, by omega, rfl, rfl, fun j hj => by omega⟩
  case round =>
    obtain ⟨gi, rfl⟩ : ∃ gi, gi = gk := ⟨_, rfl⟩
    obtain ⟨k, q, hgk, rfl, rfl, hno⟩ := hrel
    by_cases hlt : k < n
    · have hki : (k : Int) < (n : Int) := by omega
      have hk0 : (0 : Int) ≤ (k : Int) := by omega
      obtain ⟨b1, o1, rfl, _, c1⟩ := HA.out k _ (arr_get hlt)
      obtain ⟨b2, o2, rfl, _, c2⟩ := HB.out k _ (arr_get hlt)
      have c1 : (w.drewN q).cell? ⟨b1, o1 + k, none⟩ = some (.int .i64 (f k)) := by rw [World.cell?_drewN]; exact c1
      have c2 : (w.drewN q).cell? ⟨b2, o2 + k, none⟩ = some (.int .i64 (h k)) := by rw [World.cell?_drewN]; exact c2
      obtain ⟨x, hx⟩ : ∃ x, x = f k := ⟨_, rfl⟩
      obtain ⟨y, hy⟩ : ∃ y, y = h k := ⟨_, rfl⟩
      rw [← hx] at c1
      rw [← hy] at c2
      have HX := Lib.hid hx
      have HY := Lib.hid hy
      clear hx hy
      generalize hwr : w.drewN q = wr at *
      by_cases hxy : x = y
      · have hb : (x != y) = false := by simp [hxy]
        have HXY := Lib.hid hxy; clear hxy
        go_wp2_with fail
        go_quiet (fail)
        have hwn : wr.drewN nq = w.drewN (q + nq) := by rw [← hwr, drewN_add]
        generalize wr.drewN nq = wn at *
        clear c1 c2
        go_wp2
        go_roundg (gi - 1)
        case measure => omega
        case rel => exact ⟨k + 1, q + nq, by omega, by first | rfl | go_num, by first | exact hwn | rfl, fun j hj => by
          rcases Nat.lt_or_ge j k with h' | h'
          · exact hno.out j h'
          · obtain rfl : j = k := by omega
            rw [← HX.out, ← HY.out]; exact HXY.out⟩
      · have hb : (x != y) = true := by simp [hxy]
        have HXY := Lib.hid hxy; clear hxy
        go_wp2_with fail
        go_quiet (fail)
        have hwn : wr.drewN nq = w.drewN (q + nq) := by rw [← hwr, drewN_add]
        generalize wr.drewN nq = wn at *
        clear c1 c2
        go_wp2
        go_ret
        refine ⟨ret_bool ?_, q + nq, by first | exact hwn | rfl⟩
        rw [HR.out]
        symm
        rw [decide_eq_false_iff_not, arr_eq_iff]
        intro e
        exact HXY.out (by rw [HX.out, HY.out]; exact e k hlt)
    · obtain rfl : k = n := by omega
      have hki : decide ((k : Int) < (k : Int)) = false := by simp
      go_wp2
      go_ret
      refine ⟨ret_bool ?_, q, rfl⟩
      rw [HR.out]
      symm
      rw [decide_eq_true_eq, arr_eq_iff]
      exact hno.out

set_option maxHeartbeats 1000000 in
theorem equalFunc_any (ao bo : Option Addr) (ac bc m n B B' : Nat) (P Q : Nat → Nat × Nat × Nat) (M N : Nat → Nat → Int) (r : Bool) (w : World) (hA : MatR B w ao P m n M) (hB : MatR B' w bo Q m n N) (hm : m ≤ 1000000) (hn : n ≤ 1000000) (hr : r = true ↔ ∀ i j, i < m → j < n → M i j = N i j) :
    Calls Tryd.prog 30 #[.slice ao m ac, .slice bo m bc, .func (.func 31) #[] #[]] w fun e w' => e = .returned (.bool r) ∧ ∃ q, w' = w.drewN q := by
  have HA := Lib.hid hA; clear hA
  have HB := Lib.hid hB; clear hB
  have HR := Lib.hid hr; clear hr
  have hnn : ((m : Int) != (m : Int)) = false := by simp
  go_enter Tryd.func30, Tryd.ntmps30
  go_wp2
  go_loopg [17] m (fun gk i wr => ∃ k q : Nat, gk + k = m ∧ i = .int .i64 k ∧ wr = w.drewN q ∧ Hid (∀ i j, i < k → j < n → M i j = N i j))
  case atStart => exact ⟨0, 0, by omega, rfl, rfl, fun i j hj => by omega⟩
  case round =>
    obtain ⟨gi, rfl⟩ : ∃ gi, gi = gk := ⟨_, rfl⟩
    obtain ⟨k, q, hgk, rfl, rfl, hno⟩ := hrel
    by_cases hlt : k < m
    · have hki : (k : Int) < (m : Int) := by omega
      have hk0 : (0 : Int) ≤ (k : Int) := by omega
      have HAq := HA.out.below (below_drewN B w q)
      have HBq := HB.out.below (below_drewN B' w q)
      obtain ⟨b1, o1, rfl, _, c1, _, _⟩ := HAq k hlt
      obtain ⟨b2, o2, rfl, _, c2, _, _⟩ := HBq k hlt
      unfold rowV at c1 c2
      obtain ⟨rr, hrr⟩ : ∃ rr, rr = decide (arr (M k) n = arr (N k) n) := ⟨_, rfl⟩
      have hcall := equal_any (some ⟨(P k).1, (P k).2.1, none⟩) (some ⟨(Q k).1, (Q k).2.1, none⟩) (P k).2.2 (Q k).2.2 n _ _ (M k) (N k) rr _ (HAq.row hlt) (HBq.row hlt) hn hrr
      have HC := Lib.hid hcall
      have HRR := Lib.hid hrr
      clear hcall hrr HAq HBq
      generalize hwr : w.drewN q = wr at *
      go_wp2_with fail
      refine HC.out.mono ?_
      rintro e w3 ⟨rfl, q2, hw3⟩
      have hw4 : w3 = w.drewN (q + q2) := by rw [hw3, ← hwr, drewN_add]
      clear hw3 HC c1 c2
      cases rr with
      | true =>
        go_wp2
        go_roundg (gi - 1)
        case measure => omega
        case rel => exact ⟨k + 1, q + q2, by omega, by first | rfl | go_num, by first | exact hw4 | rfl, fun i j hi hj => by
          rcases Nat.lt_or_ge i k with h' | h'
          · exact hno.out i j h' hj
          · obtain rfl : i = k := by omega
            exact arr_eq_iff.1 (of_decide_eq_true HRR.out.symm) j hj⟩
      | false =>
        go_wp2
        go_ret
        refine ⟨ret_bool ?_, q + q2, by first | exact hw4 | rfl⟩
        cases r with
        | false => rfl
        | true =>
          exfalso
          have h1 := HR.out.1 rfl
          exact (of_decide_eq_false HRR.out.symm) (arr_eq_iff.2 fun j hj => h1 k j hlt hj)
    · obtain rfl : k = m := by omega
      have hki : decide ((k : Int) < (k : Int)) = false := by simp
      go_wp2
      go_ret
      exact ⟨ret_bool (HR.out.2 hno.out).symm, q, rfl⟩
end Go.Proofs.YtkheccnjcaljdaaDoor
