/- (*mux.Ends).Waits: how many bytes came and were not read. -/
import Derived.Test.YthnlpmjfibidcaaDoorRows
import Derived.Test.YthnlpmjfibidcaaDoorBase
import Derived.Test.YthnlpmjfibidcaaDoorWithin
import Derived.Test.YthnlpmjfibidcaaDoorMuxPut
namespace Go.Proofs.YthnlpmjfibidcaaDoor
open Go.RowKit
set_option linter.unusedVariables false

def waitTo (f : Nat → Option UInt8) (r k : Nat) : Nat := ((List.range' r k).filter fun j => (f j).isSome).length
theorem waitTo_succ (f : Nat → Option UInt8) (r k : Nat) : waitTo f r (k + 1) = waitTo f r k + (if (f (r + k)).isSome then 1 else 0) := by
  unfold waitTo
  rw [List.range'_concat, List.filter_append, List.length_append]
  congr 1
  simp only [Nat.one_mul, List.filter_cons, List.filter_nil]
  split <;> rfl
theorem waitTo_le (f : Nat → Option UInt8) (r k : Nat) : waitTo f r k ≤ k := by
  unfold waitTo
  have := List.length_filter_le (fun j => (f j).isSome) (List.range' r k)
  simpa using this

set_option maxHeartbeats 1000000 in
set_option maxRecDepth 100000 in
theorem muxWaits_ok (B g : Nat) (ss : List Str) (F : List Ent) (i : Nat) (s : Str) (w : World) (hi : i < 4) (hs : ss[i]? = some s) (hr : s.read ≤ 200) (hsep : Sep B w (Ent.mux 63 g ss :: F)) :
    Calls Tryd.prog 10 #[.pointer (some ⟨g, 0, none⟩), .int .i64 i] w fun e w' =>
      e = .returned (.int .i64 s.waits) ∧ ∃ n, w' = w.drewN n := by
  obtain ⟨f, r⟩ := s
  have HS0 := Lib.hid hs; clear hs
  have cr := (Sep.muxRead (A := []) hsep HS0.out).1
  have HS := Lib.hid hsep; clear hsep
  simp only at hr cr
  have hw : Str.waits ⟨f, r⟩ = waitTo f r (200 - r) := rfl
  have HW := Lib.hid hw; clear hw
  by_cases hr2 : r < 200
  · have hsl : ∀ n, (Instr.sliceAt 57 (.pointer (some ⟨g, i * 401, none⟩)) (some (.int .i64 (r : Int))) none none).run Tryd.prog (w.drewN n) = .ok (.slice (some ⟨g, i * 401 + r, none⟩) (200 - r) (200 - r)) (w.drewN n) :=
      fun n => run_sliceAt_arr_from _ Tryd.underlying57 (by kernel_rfl) _ _ _ _ hr2
    go_enter Tryd.func10, Tryd.ntmps10
    go_wp2_with (go_at_call 24; refine (within_yes _ _ _ _ (by omega) (by omega)).mono ?_; rintro e w' ⟨rfl, rfl⟩)
    go_quiet (fail)
    clear hsl
    go_wp2
    obtain ⟨m, hm⟩ : ∃ m, m = 200 - r := ⟨_, rfl⟩
    rw [← hm]
    have HM := Lib.hid hm; clear hm
    go_loop [5, 7, 26] (fun c _ x => ∃ k : Nat, k ≤ m ∧ x = .int .i64 k ∧ c = .int .i64 (waitTo f r k)) (fun _ _ x => m - (intOf x).toNat)
    case atStart => exact ⟨0, Nat.zero_le _, rfl, rfl⟩
    case round =>
      obtain ⟨k, hk, rfl, rfl⟩ := hrel
      have hle := waitTo_le f r k
      have hm2 : m ≤ 200 := by have := HM.out; omega
      by_cases hlt : k < m
      · have ch := (Sep.muxHas (A := []) (HS.out.drewN nq) HS0.out (q := r + k) (by have := HM.out; omega)).1
        rw [← Nat.add_assoc] at ch
        have hsu := Lib.hid (waitTo_succ f r k)
        cases hf : (f (r + k)).isSome with
        | true =>
          simp only [hasCell, hf] at ch
          have Hf := Lib.hid hf; clear hf
          go_wp2
          go_round
          case rel => exact ⟨k + 1, by omega, by go_num, by rw [hsu.out, if_pos Hf.out]; go_num⟩
          case measure => simp [intOf]; omega
        | false =>
          simp only [hasCell, hf] at ch
          have Hf := Lib.hid hf; clear hf
          go_wp2
          go_round
          case rel => exact ⟨k + 1, by omega, by go_num, by rw [hsu.out, if_neg (by rw [Hf.out]; exact Bool.false_ne_true)]; go_num⟩
          case measure => simp [intOf]; omega
      · obtain rfl : k = m := by omega
        go_wp2
        go_ret
        exact ⟨by rw [HW.out, ← HM.out]; rfl, _, rfl⟩
  · obtain rfl : r = 200 := by omega
    have hsl : ∀ n, (Instr.sliceAt 57 (.pointer (some ⟨g, i * 401, none⟩)) (some (.int .i64 200)) none none).run Tryd.prog (w.drewN n) = .ok (.slice (some ⟨g, i * 401, none⟩) 0 0) (w.drewN n) :=
      fun n => run_sliceAt_arr_from_end _ (n := 200) Tryd.underlying57 (by kernel_rfl) _ _ .i64
    go_enter Tryd.func10, Tryd.ntmps10
    go_wp2_with (go_at_call 24; refine (within_yes _ _ _ _ (by omega) (by omega)).mono ?_; rintro e w' ⟨rfl, rfl⟩)
    go_quiet (fail)
    clear hsl
    go_wp2
    refine wp_loop_rounds 1 ?_
    rw [rounds_succ]
    go_wp2
    go_ret
    exact ⟨by rw [HW.out]; rfl, _, rfl⟩

set_option maxHeartbeats 400000 in
theorem muxWaits_no (a : Option Addr) (i : Int) (w : World) (h : ¬ (0 ≤ i ∧ i ≤ 3)) :
    Calls Tryd.prog 10 #[.pointer a, .int .i64 i] w fun e w' => e = .returned (.int .i64 0) ∧ w = w' := by
  go_enter Tryd.func10, Tryd.ntmps10
  go_wp2_with (go_at_call 24; refine (within_no _ _ _ _ h).mono ?_; rintro e w' ⟨rfl, rfl⟩)
  go_ret
  exact ⟨rfl, rfl⟩
end Go.Proofs.YthnlpmjfibidcaaDoor
