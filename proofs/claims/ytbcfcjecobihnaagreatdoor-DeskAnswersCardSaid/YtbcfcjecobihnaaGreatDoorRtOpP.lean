/- Plain: a text opened by its lines, cut at each end of a line; numbers read byte by byte. -/
import Derived.Test.YtbcfcjecobihnaaGreatDoorPk9
import Derived.Test.YtbcfcjecobihnaaGreatDoorBkTorn
namespace Go.Proofs.YtbcfcjecobihnaaGreatDoor
open Go.RowKit
set_option linter.unusedVariables false
set_option linter.unusedSimpArgs false

theorem bkLine_err {b : Bk} {l : List UInt8} (h : ¬ (bkLine b l).2 = 0) : (bkLine b l).1 = b := by
  unfold bkLine at h ⊢
  split at h <;> rename_i h1
  · rw [if_pos h1]
  · rw [if_neg h1]
    split at h <;> rename_i h2
    · rw [if_pos h2]
    · rw [if_neg h2]
      split at h <;> rename_i h3
      · rw [if_pos h3]
      · rw [if_neg h3]
        unfold lineDo at h ⊢
        split at h <;> rename_i h4
        · rw [if_pos h4]
        · rw [if_neg h4]
          split at h <;> rename_i h5
          · rw [if_pos h5]; exact bkSet_err h
          · rw [if_neg h5]
            split at h <;> rename_i h6
            · rw [if_pos h6]; exact bkDrop_err h
            · rw [if_neg h6]
theorem bkLine_many {b : Bk} {l : List UInt8} (h : (bkLine b l).2 = 0) : (bkLine b l).1.2.2 = b.2.2 + 1 := by
  unfold bkLine at h ⊢
  split at h <;> rename_i h1
  · simp at h
  · rw [if_neg h1]
    split at h <;> rename_i h2
    · simp at h
    · rw [if_neg h2]
      split at h <;> rename_i h3
      · simp at h
      · rw [if_neg h3]
        unfold lineDo at h ⊢
        split at h <;> rename_i h4
        · simp at h
        · rw [if_neg h4]
          split at h <;> rename_i h5
          · rw [if_pos h5]; exact bkSet_many h
          · rw [if_neg h5]
            split at h <;> rename_i h6
            · rw [if_pos h6]; exact bkDrop_many h
            · simp at h
/-- The lines of a text, one by one, that end. -/
def opL (b : Bk) : List (List UInt8) → Bk ⊕ (Bk × Int)
  | [] => .inl b
  | x :: r => if (bkLine b x).2 = 0 then opL (bkLine b x).1 r else .inr (b, (bkLine b x).2)
theorem trim10 (l : List UInt8) : Lib.hasSuffix (l ++ [10]) [10] = true ∧ Lib.trimSuffix (l ++ [10]) [10] = l := by
  have k1 : Lib.hasSuffix (l ++ [10]) [10] = true := by
    unfold Lib.hasSuffix
    rw [List.isSuffixOf_iff_suffix]
    exact List.suffix_append _ _
  refine ⟨k1, ?_⟩
  unfold Lib.trimSuffix
  rw [if_pos k1, List.length_append, List.length_singleton, Nat.add_sub_cancel, List.take_left]
theorem split10 : ∀ (t : List UInt8), (∀ k : Nat, t[k]? ≠ some 10) ∨ ∃ x y, t = x ++ 10 :: y ∧ ∀ k : Nat, x[k]? ≠ some 10
  | [] => .inl (by simp)
  | c :: r => by
    by_cases hc : c = 10
    · exact .inr ⟨[], r, by rw [hc]; rfl, by simp⟩
    · rcases split10 r with h | ⟨x, y, h1, h2⟩
      · left
        intro k hk
        cases k with
        | zero => simp at hk; exact hc hk
        | succ k => exact h k (by simpa using hk)
      · right
        refine ⟨c :: x, y, by rw [h1]; rfl, ?_⟩
        intro k hk
        cases k with
        | zero => simp at hk; exact hc hk
        | succ k => exact h2 k (by simpa using hk)
def opEnd (b : Bk) (t : List UInt8) : Option Bk × Nat × Int := match opL b (cutL 10 t).dropLast with
  | .inl b' => (some b', b'.2.2, 0)
  | .inr (b', c) => (none, b'.2.2 + 1, c)
def runEnd : Bk ⊕ (Bk × Option Int) → Option Bk × Nat × Int
  | .inl b => (some b, b.2.2, 0)
  | .inr (b, none) => (some b, b.2.2, 0)
  | .inr (b, some c) => (none, b.2.2 + 1, c)
theorem run_cut : ∀ (n : Nat) (t : List UInt8) (b : Bk), t.length ≤ n → runEnd (runL opStep b (linesOf t)) = opEnd b t := by
  intro n
  induction n with
  | zero =>
    intro t b h
    obtain rfl : t = [] := List.eq_nil_of_length_eq_zero (by omega)
    rfl
  | succ n ih =>
    intro t b h
    rcases split10 t with h1 | ⟨x, y, rfl, h1⟩
    · unfold opEnd
      rw [cutL_none h1]
      cases t with
      | nil => rfl
      | cons c r =>
        rw [linesOf_none (by simp) h1, runL, opStep_tail h1]
        rfl
    · rw [linesOf_app h1, runL]
      obtain ⟨k1, k2⟩ := trim10 x
      have hd : (cutL 10 (x ++ 10 :: y)).dropLast = x :: (cutL 10 y).dropLast := by
        rw [cutL_app h1, List.dropLast_cons_of_ne_nil (cutL_ne 10 y)]
      unfold opEnd
      rw [hd, opL]
      unfold opStep
      rw [k1, if_neg (by decide), k2]
      by_cases hz : (bkLine b x).2 = 0
      · rw [if_pos hz, if_pos hz]
        have h2 := ih y (bkLine b x).1 (by rw [List.length_append, List.length_cons] at h; omega)
        unfold opEnd at h2
        exact h2
      · rw [if_neg hz, if_neg hz]
        simp only [runEnd]
        rw [bkLine_err hz]
theorem openB_cut {t : List UInt8} (h : ¬ 2000 < t.length) : openB t = opEnd ([], [], 0) t := by
  rw [← run_cut t.length t _ (Nat.le_refl _)]
  unfold openB
  rw [if_neg h]
  cases runL opStep (([], [], 0) : Bk) (linesOf t) with
  | inl b => rfl
  | inr x =>
    obtain ⟨b, o⟩ := x
    cases o <;> rfl
/-- Where the loop stands. -/
theorem opEnd_at {t : List UInt8} {b : Bk} {i : Nat} {L : List (List UInt8)} (hL : L = cutL 10 t) (h : opL ([], [], 0) (L.take i) = .inl b) (hi : i + 1 ≤ L.length) :
    b.2.2 = i ∧ opL ([], [], 0) L.dropLast = opL b (L.dropLast.drop i) := by
  have hsp : ∀ (A C : List (List UInt8)) (b0 b1 : Bk), opL b0 A = .inl b1 → b1.2.2 = b0.2.2 + A.length ∧ opL b0 (A ++ C) = opL b1 C := by
    intro A C
    induction A with
    | nil => intro b0 b1 h; simp only [opL, Sum.inl.injEq] at h; subst h; exact ⟨rfl, rfl⟩
    | cons x r ih =>
      intro b0 b1 h
      unfold opL at h
      split at h
      · rename_i hz
        obtain ⟨e1, e2⟩ := ih _ _ h
        rw [bkLine_many hz] at e1
        refine ⟨by rw [e1, List.length_cons]; omega, ?_⟩
        rw [List.cons_append, opL, if_pos hz]; exact e2
      · cases h
  have h1 : L.take i = L.dropLast.take i := by
    rw [List.dropLast_eq_take, List.take_take, Nat.min_eq_left (by omega)]
  obtain ⟨e1, e2⟩ := hsp _ (L.dropLast.drop i) _ _ h
  refine ⟨by rw [e1, List.length_take]; simp only; omega, ?_⟩
  rw [h1, List.take_append_drop] at e2
  exact e2
theorem opL_next {L : List (List UInt8)} {b : Bk} {i : Nat} {x : List UInt8} (h : opL ([], [], 0) (L.take i) = .inl b) (hx : L[i]? = some x) (hz : (bkLine b x).2 = 0) : opL ([], [], 0) (L.take (i + 1)) = .inl (bkLine b x).1 := by
  have hsn : ∀ (A : List (List UInt8)) (b0 b1 : Bk), opL b0 A = .inl b1 → (bkLine b1 x).2 = 0 → opL b0 (A ++ [x]) = .inl (bkLine b1 x).1 := by
    intro A
    induction A with
    | nil => intro b0 b1 h hz; simp only [opL, Sum.inl.injEq] at h; subst h; rw [List.nil_append, opL, if_pos hz]; rfl
    | cons y r ih =>
      intro b0 b1 h hz
      unfold opL at h
      split at h
      · rename_i hy
        rw [List.cons_append, opL, if_pos hy]; exact ih _ _ h hz
      · cases h
  have e : L.take (i + 1) = L.take i ++ [x] := by rw [List.take_add_one, hx]; rfl
  rw [e]
  exact hsn _ _ _ h hz
/-! ### Numbers -/
theorem numOk_iff {s : List UInt8} : numOk s = true ↔ ∃ n : Nat, n ≤ 9223372036854775807 ∧ s = Lib.decDigits n := by
  constructor
  · intro h
    unfold numOk at h
    cases ha : Lib.atoiAll s with
    | ok v =>
      rw [ha] at h
      obtain ⟨h1, h2⟩ := of_decide_eq_true h
      obtain ⟨k, rfl⟩ := Int.eq_ofNat_of_zero_le h1
      exact ⟨k, atoiAll_le ha, by simpa using h2.symm⟩
    | _ => rw [ha] at h; cases h
  · rintro ⟨n, hn, rfl⟩
    exact (dig_num n hn).2
def valD (l : List UInt8) : Nat := l.foldl (fun n c => n * 10 + (c.toNat - 48)) 0
theorem valD_snoc (l : List UInt8) (c : UInt8) : valD (l ++ [c]) = valD l * 10 + (c.toNat - 48) := by unfold valD; rw [List.foldl_append]; rfl
theorem valD_next {l : List UInt8} {k : Nat} {c : UInt8} (h : l[k]? = some c) : valD (l.take (k + 1)) = valD (l.take k) * 10 + (c.toNat - 48) := by
  rw [List.take_add_one, h]; exact valD_snoc _ _
theorem valF_lt : ∀ (l : List UInt8) (n : Nat), (∀ c ∈ l, c.toNat ≤ 57) → l.foldl (fun n c => n * 10 + (c.toNat - 48)) n < (n + 1) * 10 ^ l.length
  | [], n, _ => by simp
  | c :: r, n, h => by
    have h1 := valF_lt r (n * 10 + (c.toNat - 48)) (fun x hx => h x (List.mem_cons_of_mem _ hx))
    have h2 := h c (List.mem_cons_self ..)
    rw [List.foldl_cons, List.length_cons, Nat.pow_succ, Nat.mul_comm (10 ^ r.length) 10, ← Nat.mul_assoc]
    exact Nat.lt_of_lt_of_le h1 (Nat.mul_le_mul_right _ (by omega))
theorem valD_lt (l : List UInt8) (h : ∀ c ∈ l, c.toNat ≤ 57) : valD l < 10 ^ l.length := by
  have := valF_lt l 0 h
  rw [Nat.zero_add, Nat.one_mul] at this
  exact this
theorem num_no {s : List UInt8} (h : s = [] ∨ 19 < s.length ∨ ∃ c ∈ s, c.toNat < 48 ∨ 57 < c.toNat) : numOk s = false := by
  cases hn : numOk s with
  | false => rfl
  | true =>
    obtain ⟨n, h1, rfl⟩ := numOk_iff.1 hn
    rcases h with h | h | ⟨c, hc, h⟩
    · exact absurd h (dig_ne n)
    · have := dig_short 19 n (by decide) (by omega)
      omega
    · have := dig_bytes n c hc
      omega
theorem wrap_step {v : Nat} {c : Nat} (hv : v < 1000000000000000000) (h1 : 48 ≤ c) (h2 : c ≤ 57) :
    ((v * 10 + (c - 48) ≤ 9223372036854775807) → IntKind.i64.wrap (IntKind.i64.wrap (IntKind.i64.wrap ((v : Int) * 10) + (c : Int)) - 48) = ((v * 10 + (c - 48) : Nat) : Int)) ∧
      ((9223372036854775807 < v * 10 + (c - 48)) → IntKind.i64.wrap (IntKind.i64.wrap (IntKind.i64.wrap ((v : Int) * 10) + (c : Int)) - 48) < 0) := by
  have hw : ∀ x : Int, IntKind.i64.wrap x = if x % 18446744073709551616 < 9223372036854775808 then x % 18446744073709551616 else x % 18446744073709551616 - 18446744073709551616 := by
    intro x
    simp [IntKind.wrap, IntKind.bits, IntKind.signed]
    split <;> split <;> omega
  have hs : ∀ x y : Int, ∃ q : Int, IntKind.i64.wrap x = x + 18446744073709551616 * q := by
    intro x _
    refine ⟨(IntKind.i64.wrap x - x) / 18446744073709551616, ?_⟩
    rw [hw]
    split <;> omega
  obtain ⟨q1, e1⟩ := hs ((v : Int) * 10) 0
  obtain ⟨q2, e2⟩ := hs (IntKind.i64.wrap ((v : Int) * 10) + (c : Int)) 0
  rw [hw (IntKind.i64.wrap (IntKind.i64.wrap ((v : Int) * 10) + (c : Int)) - 48), e2, e1]
  clear hs hw e1 e2
  constructor
  · intro h
    split <;> omega
  · intro h
    split <;> omega
theorem valD_dig : ∀ (n : Nat), valD (Lib.decDigits n) = n := by
  intro n
  induction n using Nat.strongRecOn with
  | _ n ih =>
    by_cases h : n < 10
    · rw [Lib.decDigits_one h]
      show 0 * 10 + ((UInt8.ofNat (48 + n)).toNat - 48) = n
      rw [dig_val n h]; omega
    · rw [Lib.decDigits, dif_neg h, valD_snoc, ih (n / 10) (by omega), dig_val _ (Nat.mod_lt _ (by decide))]
      omega
theorem num_end {s : List UInt8} {n : Int} (h : (valD s ≤ 9223372036854775807 → n = (valD s : Nat)) ∧ (9223372036854775807 < valD s → n < 0)) :
    (n < 0 ∧ numOk s = false) ∨ ∃ m : Nat, n = (m : Int) ∧ m ≤ 9223372036854775807 ∧ (Lib.decDigits m = s → numOk s = true ∧ numV s = (m : Int)) ∧ (¬ Lib.decDigits m = s → numOk s = false) := by
  by_cases hv : valD s ≤ 9223372036854775807
  · right
    refine ⟨valD s, h.1 hv, hv, ?_, ?_⟩
    · intro e
      obtain ⟨e1, e2⟩ := dig_num (valD s) hv
      rw [e] at e1 e2
      exact ⟨e2, e1⟩
    · intro e
      cases hn : numOk s with
      | false => rfl
      | true =>
        obtain ⟨k, h1, rfl⟩ := numOk_iff.1 hn
        rw [valD_dig] at e
        exact absurd rfl e
  · left
    refine ⟨h.2 (by omega), ?_⟩
    cases hn : numOk s with
    | false => rfl
    | true =>
      obtain ⟨k, h1, rfl⟩ := numOk_iff.1 hn
      rw [valD_dig] at hv
      exact absurd h1 hv
end Go.Proofs.YtbcfcjecobihnaaGreatDoor
