/- How often each number of 0 .. n - 1 stands in a list; a row of zeros that was made. -/
import Derived.Test.YtpfpaheafpibiaaDoorRows
import Derived.Test.YtpfpaheafpibiaaDoorBase
namespace Go.Proofs.YtpfpaheafpibiaaDoor
open Go.RowKit
set_option linter.unusedVariables false

theorem madeInts (n : Nat) : (madeCells #[.int .i64 0] n).toList = (List.replicate n (0 : Int)).map (Value.int .i64) := by
  have h := madeCells_flat #[.int .i64 0] n
  rw [show n * (#[Value.int .i64 0] : Array Value).size = n from Nat.mul_one n] at h
  rw [h]
  clear h
  induction n with
  | zero => rfl
  | succ n ih => rw [List.replicate_succ, List.flatten_cons, ih, List.replicate_succ, List.map_cons]; rfl

theorem madeOne (c : Value) (n : Nat) : (madeCells #[c] n).toList = List.replicate n c := by
  have h := madeCells_flat #[c] n
  rw [show n * (#[c] : Array Value).size = n from Nat.mul_one n] at h
  rw [h]
  clear h
  induction n with
  | zero => rfl
  | succ n ih => rw [List.replicate_succ, List.flatten_cons, ih, List.replicate_succ]; rfl
def cnts (l : List Int) (n k : Nat) : List Int := (List.range n).map fun (j : Nat) => (((l.take k).count (j : Int) : Nat) : Int)
theorem cnts_len (l : List Int) (n k : Nat) : (cnts l n k).length = n := by simp [cnts]
theorem cnts_zero (l : List Int) (n : Nat) : cnts l n 0 = List.replicate n 0 := by
  refine List.ext_getElem? fun i => ?_
  rw [cnts, List.getElem?_map, List.getElem?_replicate]
  by_cases h : i < n
  · rw [List.getElem?_range h, if_pos h]; simp
  · rw [if_neg h, List.getElem?_eq_none (by simp; omega)]; rfl
theorem cnts_get {l : List Int} {n k j : Nat} (h : j < n) : (cnts l n k)[j]? = some ((l.take k).count (j : Int) : Int) := by
  rw [cnts, List.getElem?_map, List.getElem?_range h]; rfl
theorem cnts_step {l : List Int} {n k x : Nat} (hx : l[k]? = some (x : Int)) (hn : x < n) : (cnts l n k).set x (((l.take k).count (x : Int) : Int) + 1) = cnts l n (k + 1) := by
  refine List.ext_getElem? fun i => ?_
  by_cases hi : i < n
  · rw [cnts_get hi, List.take_add_one, hx, List.count_append]
    by_cases e : i = x
    · subst e
      rw [List.getElem?_set_self (by rw [cnts_len]; exact hn)]
      simp
    · rw [List.getElem?_set_ne (by omega), cnts_get hi]
      have : ¬ ((x : Int) == (i : Int)) = true := by simp; omega
      simp [List.count_cons, this]
  · rw [List.getElem?_eq_none (by rw [List.length_set, cnts_len]; omega), List.getElem?_eq_none (by rw [cnts_len]; omega)]
end Go.Proofs.YtpfpaheafpibiaaDoor
