/- The desk, plain: what was put down outlives a crash. -/
import Derived.Test.YtbcfcjecobihnaaGreatDoorDskPlain
namespace Go.Proofs.YtbcfcjecobihnaaGreatDoor
open Go.RowKit
set_option linter.unusedVariables false
set_option linter.unusedSimpArgs false

theorem find_set16 {L : List Rte} (hs : SrtR L) {a h : Nat} (ha : a ≤ 65535) : findR (setL L a 16 h) (a : Int) = ((h : Int), 16, 0) := by
  have h1 : lookL (setL L a 16 h) a 16 = (h : Int) := lookL_of (setL_srt hs) ((setL_mem hs _).2 (.inl rfl))
  unfold findR
  rw [if_neg (by omega), Int.toNat_natCast, findL, show a - a % 2 ^ (16 - 16) = a by simp [Nat.mod_one], h1, if_pos (by omega)]
  simp
theorem keep_cases {b : Bk} (hb : FineB b) {a h : Nat} (ha : a ≤ 65535) (hh : h ≤ 9) :
    ((bkSet b a 16 h).2 = 0 ∧ findA (bkSet b a 16 h).1 a = Lib.decDigits h ++ 32 :: Lib.decDigits 16) ∨ ((bkSet b a 16 h).2 = 4 ∧ (bkSet b a 16 h).1 = b) := by
  have hc : chkP (a : Int) ((16 : Nat) : Int) = 0 := chkP_of ⟨by omega, by omega, by simp [Nat.mod_one]⟩
  have hc' : chkP (a : Int) 16 = 0 := hc
  by_cases hm : b.2.2 = 60
  · right
    unfold bkSet
    rw [if_pos hm]
    exact ⟨rfl, rfl⟩
  · by_cases hf : hasL b.1 (a : Int).toNat (16 : Int).toNat = false ∧ b.1.length = 32
    · right
      have e : setRR b.1 a 16 h = (b.1, 4) := by
        unfold setRR
        rw [if_neg (fun h => h hc'), if_neg (fun h => h (by omega)), if_pos hf]
      unfold bkSet
      rw [if_neg hm, e, if_neg (show ¬ (4 : Int) = 0 by decide)]
      exact ⟨rfl, rfl⟩
    · left
      have e : setRR b.1 a 16 h = (setL b.1 a 16 h, 0) := by
        unfold setRR
        rw [if_neg (fun h => h hc'), if_neg (fun h => h (by omega)), if_neg hf]
        rfl
      have e2 : bkSet b a 16 h = ((setL b.1 a 16 h, b.2.1 ++ lineOf (wordOf [115] [a, 16, h]), b.2.2 + 1), 0) := by
        unfold bkSet
        rw [if_neg hm, e, if_pos rfl]
        rfl
      rw [e2]
      refine ⟨rfl, ?_⟩
      unfold findA
      rw [find_set16 hb.1 ha, if_pos rfl]
      rfl
/-- All that DeskKeeps asks, of the texts. -/
structure KeepT (t : List UInt8) (a h : Nat) (x1 x2 x3 x4 : List UInt8) : Prop where
  r1 : ∃ P, EndN P ∧ runD (t ++ (setLn a h ++ [10])) = P ++ (x1 ++ [10])
  r2 : ∃ P, EndN P ∧ runD (t ++ (findLn a ++ [10])) = P ++ (x2 ++ [10])
  r3 : ∃ P, EndN P ∧ runD ((t ++ (setLn a h ++ [10])) ++ (findLn a ++ [10])) = P ++ (x3 ++ [10])
  r4 : ∃ P, EndN P ∧ runD (((t ++ (setLn a h ++ [10])) ++ (crashLn ++ [10])) ++ (findLn a ++ [10])) = P ++ (x4 ++ [10])
  n1 : (10 : UInt8) ∉ x1
  n2 : (10 : UInt8) ∉ x2
  n3 : (10 : UInt8) ∉ x3
  n4 : (10 : UInt8) ∉ x4
  fin : (x1 = okT ∧ x3 = x4 ∧ x3 = Lib.decDigits h ++ 32 :: Lib.decDigits 16) ∨ (x1 = errT 4 ∧ x3 = x2 ∧ x4 = x2)
theorem endN_snoc (A x : List UInt8) : EndN (A ++ (x ++ [10])) := .inr ⟨A ++ x, by simp⟩
theorem setLn_len {a h : Nat} (ha : a ≤ 65535) (hh : h ≤ 9) : (setLn a h).length ≤ 20 := by
  have h1 := dig_short 5 a (by omega) (by omega)
  have h2 := dig_short 2 16 (by omega) (by omega)
  have h3 := dig_short 1 h (by omega) (by omega)
  unfold setLn setT
  simp only [List.length_append, List.length_cons, List.length_nil]
  omega
theorem findLn_len {a : Nat} (ha : a ≤ 65535) : (findLn a).length ≤ 20 := by
  have h1 := dig_short 5 a (by omega) (by omega)
  unfold findLn findT
  simp only [List.length_append, List.length_cons, List.length_nil]
  omega
theorem crashLn_len : crashLn.length ≤ 20 := by
  have h1 := dig_short 7 9999999 (by omega) (by omega)
  unfold crashLn crashT
  simp only [List.length_append, List.length_cons, List.length_nil]
  omega
theorem keepT {t : List UInt8} (ht : EndN t) (hl : t.length ≤ 2900) {a h : Nat} (ha : a ≤ 65535) (hh : h ≤ 9) : ∃ x1 x2 x3 x4, KeepT t a h x1 x2 x3 x4 := by
  have l1 := setLn_len ha hh
  have l2 := findLn_len ha
  have l3 := crashLn_len
  have s1 := setLn_no a h
  have s2 := findLn_no a
  have s3 := crashLn_no
  have hf := bkD_fine t
  have b1 : bkD (t ++ (setLn a h ++ [10])) = (bkSet (bkD t) a 16 h).1 := by rw [bkD_snoc ht s1, ans_set _ ha hh]
  have b2 : bkD ((t ++ (setLn a h ++ [10])) ++ (crashLn ++ [10])) = (bkSet (bkD t) a 16 h).1 := by
    rw [bkD_snoc (endN_snoc _ _) s3, ans_crash (bkD_fine _), b1]
  have r1 := runD_snoc ht s1 (by simp only [List.length_append, List.length_cons, List.length_nil]; omega)
  have r2 := runD_snoc ht s2 (by simp only [List.length_append, List.length_cons, List.length_nil]; omega)
  have r3 := runD_snoc (endN_snoc t (setLn a h)) s2 (by simp only [List.length_append, List.length_cons, List.length_nil]; omega)
  have r4 := runD_snoc (endN_snoc (t ++ (setLn a h ++ [10])) crashLn) s2 (by simp only [List.length_append, List.length_cons, List.length_nil]; omega)
  rw [ans_set _ ha hh] at r1
  rw [ans_find _ ha] at r2 r3 r4
  rw [b1] at r3
  rw [b2] at r4
  refine ⟨_, _, _, _, ⟨r1, r2, r3, r4, errT_no10 _, (findA_no10 _ _).1, (findA_no10 _ _).1, (findA_no10 _ _).1, ?_⟩⟩
  rcases keep_cases hf ha hh with ⟨e1, e2⟩ | ⟨e1, e2⟩
  · exact .inl ⟨by rw [e1]; rfl, rfl, e2⟩
  · exact .inr ⟨by rw [e1], by rw [e2], by rw [e2]⟩
/-- All that TopDesk asks, of the texts. -/
structure TopT (t : List UInt8) (a : Nat) (x1 x2 : List UInt8) : Prop where
  r1 : ∃ P, EndN P ∧ runD (t ++ (findLn a ++ [10])) = P ++ (x1 ++ [10])
  r2 : ∃ P, EndN P ∧ runD ((t ++ (crashLn ++ [10])) ++ (findLn a ++ [10])) = P ++ (x1 ++ [10])
  r3 : ∃ P, EndN P ∧ runD (t ++ (manyT ++ [10])) = P ++ (x2 ++ [10])
  r4 : ∃ P, EndN P ∧ runD ((t ++ (crashLn ++ [10])) ++ (manyT ++ [10])) = P ++ (x2 ++ [10])
  n1 : (10 : UInt8) ∉ x1
  n2 : (10 : UInt8) ∉ x2
  ne : x1 ≠ []
theorem topT {t : List UInt8} (ht : EndN t) (hl : t.length ≤ 2900) {a : Nat} (ha : a ≤ 65535) : ∃ x1 x2, TopT t a x1 x2 := by
  have l2 := findLn_len ha
  have l3 := crashLn_len
  have l4 : manyT.length = 4 := rfl
  have s2 := findLn_no a
  have s3 := crashLn_no
  have s4 : (10 : UInt8) ∉ manyT := by decide
  have b1 : bkD (t ++ (crashLn ++ [10])) = bkD t := by rw [bkD_snoc ht s3, ans_crash (bkD_fine t)]
  have r1 := runD_snoc ht s2 (by simp only [List.length_append, List.length_cons, List.length_nil]; omega)
  have r2 := runD_snoc (endN_snoc t crashLn) s2 (by simp only [List.length_append, List.length_cons, List.length_nil]; omega)
  have r3 := runD_snoc ht s4 (by simp only [List.length_append, List.length_cons, List.length_nil]; omega)
  have r4 := runD_snoc (endN_snoc t crashLn) s4 (by simp only [List.length_append, List.length_cons, List.length_nil]; omega)
  rw [ans_find _ ha] at r1 r2
  rw [ans_many] at r3 r4
  rw [b1] at r2 r4
  exact ⟨_, _, ⟨r1, r2, r3, r4, (findA_no10 _ _).1, dig_no10 _, (findA_no10 _ _).2⟩⟩
/-! ### The facts of the laws -/
theorem run_many : runD manyT = [48, 10] := by decide +kernel
theorem run_three : runD [115, 101, 116, 32, 48, 32, 48, 32, 49, 10, 10, 98] = [111, 107, 10, 98, 97, 100, 10, 98, 97, 100, 10] := by decide +kernel
end Go.Proofs.YtbcfcjecobihnaaGreatDoor
