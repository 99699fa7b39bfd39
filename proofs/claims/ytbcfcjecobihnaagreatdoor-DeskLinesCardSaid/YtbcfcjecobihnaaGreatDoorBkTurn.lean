/- Plain: one byte of a line turned: what is told. -/
import Derived.Test.YtbcfcjecobihnaaGreatDoorPk10
namespace Go.Proofs.YtbcfcjecobihnaaGreatDoor
set_option linter.unusedVariables false

def BOp.fine : BOp → Prop
  | .set a n x => a ≤ 65535 ∧ n ≤ 16 ∧ x ≤ 9
  | .drop a n => a ≤ 65535 ∧ n ≤ 16
theorem fine_of_app {op : BOp} {b : Bk} (h : (op.app b).2 = 0) : op.fine := by
  cases op with
  | set a n x =>
    rw [show (BOp.set a n x).app b = bkSet b a n x from rfl] at h
    unfold bkSet at h
    split at h
    · simp at h
    · split at h
      · rename_i h1 h2
        obtain ⟨a', n', x', e1, e2, e3, hk, hx⟩ := setRR_ok h2
        have ea : a = a' := by omega
        have en : n = n' := by omega
        have ex : x = x' := by omega
        subst ea; subst en; subst ex
        exact ⟨by have := hk.1; omega, hk.2.1, hx⟩
      · rename_i h1 h2; exact absurd h h2
  | drop a n =>
    rw [show (BOp.drop a n).app b = bkDrop b a n from rfl] at h
    unfold bkDrop at h
    split at h
    · simp at h
    · split at h
      · rename_i h1 h2
        obtain ⟨a', n', e1, e2, hk⟩ := dropR_ok h2
        have ea : a = a' := by omega
        have en : n = n' := by omega
        subst ea; subst en
        exact ⟨by have := hk.1; omega, hk.2.1⟩
      · rename_i h1 h2; exact absurd h h2
/-! ### Weighed sums -/
def wsum (i : Nat) : List UInt8 → Nat
  | [] => 0
  | c :: r => (i + 1) * c.toNat + wsum (i + 1) r
theorem wsum_app : ∀ (l r : List UInt8) (i : Nat), wsum i (l ++ r) = wsum i l + wsum (i + l.length) r
  | [], r, i => by simp [wsum]
  | c :: l, r, i => by
    rw [List.cons_append, wsum, wsum, wsum_app l r (i + 1), List.length_cons, show i + (l.length + 1) = i + 1 + l.length by omega]; omega
theorem wsum_le (m : Nat) : ∀ (l : List UInt8) (i : Nat), (∀ c ∈ l, c.toNat ≤ m) → wsum i l ≤ m * (l.length * (i + l.length))
  | [], i, _ => by simp [wsum]
  | c :: r, i, h => by
    have h1 := wsum_le m r (i + 1) (fun x hx => h x (List.mem_cons_of_mem _ hx))
    have h2 := h c (List.mem_cons_self ..)
    have h3 : (i + 1) * c.toNat ≤ m * (i + 1 + r.length) := by
      rw [Nat.mul_comm]
      exact Nat.mul_le_mul h2 (by omega)
    have h4 : m * ((r.length + 1) * (i + 1 + r.length)) = m * (r.length * (i + 1 + r.length)) + m * (i + 1 + r.length) := by rw [← Nat.mul_add]; congr 1; rw [Nat.add_mul, Nat.one_mul]
    rw [wsum, List.length_cons, show i + (r.length + 1) = i + 1 + r.length by omega, h4]
    exact Nat.le_trans (Nat.add_le_add h3 h1) (Nat.le_of_eq (Nat.add_comm _ _))
theorem sumTo_w : ∀ (l p : List UInt8), sumTo (p ++ l) (p.length + l.length) = sumTo (p ++ l) p.length + wsum p.length l
  | [], p => by simp [wsum]
  | c :: r, p => by
    have h1 := sumTo_w r (p ++ [c])
    rw [List.append_assoc, List.singleton_append, List.length_append, List.length_singleton] at h1
    rw [List.length_cons, show p.length + (r.length + 1) = p.length + 1 + r.length by omega, h1, wsum, sumTo]
    have : (p ++ c :: r).getD p.length 0 = c := by simp [List.getD]
    rw [this]; omega
theorem sumB_w (l : List UInt8) : sumB l = wsum 0 l % 9973 := by
  have := sumTo_w l []
  unfold sumB
  simp only [List.nil_append, List.length_nil, Nat.zero_add] at this
  rw [this]; simp [sumTo]
/-! ### Digits -/
theorem dig_lt : ∀ (n : Nat), n < 10 ^ (Lib.decDigits n).length := by
  intro n
  induction n using Nat.strongRecOn with
  | _ n ih =>
    by_cases h : n < 10
    · rw [Lib.decDigits_one h]; simpa using h
    · have := ih (n / 10) (by omega)
      rw [Lib.decDigits, dif_neg h, List.length_append, List.length_singleton, Nat.pow_succ]; omega
theorem dig_ge : ∀ (n : Nat), 1 ≤ n → 10 ^ ((Lib.decDigits n).length - 1) ≤ n := by
  intro n
  induction n using Nat.strongRecOn with
  | _ n ih =>
    intro h1
    by_cases h : n < 10
    · rw [Lib.decDigits_one h]; simpa using h1
    · have h2 := ih (n / 10) (by omega) (by omega)
      have h3 : 1 ≤ (Lib.decDigits (n / 10)).length := by
        have := dig_ne (n / 10)
        cases hd : Lib.decDigits (n / 10) with
        | nil => exact absurd hd this
        | cons _ _ => simp
      rw [Lib.decDigits, dif_neg h, List.length_append, List.length_singleton, Nat.add_sub_cancel]
      rw [show (Lib.decDigits (n / 10)).length = ((Lib.decDigits (n / 10)).length - 1) + 1 by omega, Nat.pow_succ]; omega
theorem dig_inj {n m : Nat} (hn : n ≤ 10000) (hm : m ≤ 10000) (h : Lib.decDigits n = Lib.decDigits m) : n = m := by
  have h1 := (dig_num n (by omega)).1
  have h2 := (dig_num m (by omega)).1
  rw [h, h2] at h1; omega
theorem dig_32 (n : Nat) : (32 : UInt8) ∉ Lib.decDigits n := fun h => by
  have h1 := (dig_bytes n 32 h).1
  have : (32 : UInt8).toNat = 32 := by decide
  omega
/-! ### A line that is wrong -/
theorem last_uniq {A B C D : List UInt8} (h : A ++ 32 :: B = C ++ 32 :: D) (hB : (32 : UInt8) ∉ B) (hD : (32 : UInt8) ∉ D) : A = C ∧ B = D := by
  rcases List.append_eq_append_iff.1 h with ⟨zs, h1, h2⟩ | ⟨zs, h1, h2⟩
  · cases zs with
    | nil => simp at h1 h2; exact ⟨h1.symm, h2⟩
    | cons y ys =>
      simp only [List.cons_append, List.cons.injEq] at h2
      exact absurd (by rw [h2.2]; simp) hB
  · cases zs with
    | nil => simp at h1 h2; exact ⟨h1, h2.symm⟩
    | cons y ys =>
      simp only [List.cons_append, List.cons.injEq] at h2
      exact absurd (by rw [h2.2]; simp) hD
theorem last_at {l : List UInt8} (h : ¬ lastSp l < 0) : l = l.take (lastSp l).toNat ++ 32 :: l.drop ((lastSp l).toNat + 1) := by
  unfold lastSp at *
  have hs : (⟨l.toArray⟩ : ByteArray).size = l.length := rfl
  rcases Lib.lastIdx_spec ⟨l.toArray⟩ 32 (⟨l.toArray⟩ : ByteArray).size with ⟨h1, -⟩ | ⟨i, hi, h1, hc, -⟩
  · exact absurd (show Lib.lastIndexByte ⟨l.toArray⟩ 32 = -1 from h1) (by omega)
  · have h2 : Lib.lastIndexByte ⟨l.toArray⟩ 32 = i := h1
    rw [h2, Int.toNat_natCast]
    have hil : i < l.length := by rw [← hs]; exact hi
    have e1 : (⟨l.toArray⟩ : ByteArray).data[i]! = l[i] := by
      show (l.toArray)[i]! = _
      simp [hil]
    rw [e1] at hc
    have e2 : l[i] = 32 := UInt8.toNat_inj.1 (by have : (32 : UInt8).toNat = 32 := by decide
                                                 omega)
    conv => lhs; rw [← List.take_append_drop i l, List.drop_eq_getElem_cons hil, e2]
theorem bk_bad {l : List UInt8} (b : Bk) (h : ∀ (A : List UInt8) (n : Nat), l = A ++ 32 :: Lib.decDigits n → n = sumB A → False) : ∃ e : Int, bkLine b l = (b, e) ∧ (e = 2 ∨ e = 6) := by
  unfold bkLine
  by_cases h1 : lastSp l < 0
  · exact ⟨2, by rw [if_pos h1], .inl rfl⟩
  rw [if_neg h1]
  cases h2 : numOk (l.drop ((lastSp l).toNat + 1)) with
  | false => exact ⟨2, by rw [if_pos rfl], .inl rfl⟩
  | true =>
    obtain ⟨n, e1, e2⟩ := numOk_is h2
    have hl := last_at h1
    rw [← e2] at hl
    refine ⟨6, ?_, .inr rfl⟩
    rw [if_neg (by decide), if_pos]
    rw [e1]
    intro e
    exact h _ n hl (by omega)
/-- What is so of each word. -/
theorem word_facts {op : BOp} (h : op.fine) : ∃ (hd : UInt8) (r : List UInt8), op.word = hd :: r ∧ 100 ≤ hd.toNat ∧ hd.toNat ≤ 115 ∧ (∀ c ∈ r, c.toNat ≤ 57) ∧ r.length ≤ 11 ∧ ∃ W0 m, op.word = W0 ++ 32 :: Lib.decDigits m := by
  have hb : ∀ n, ∀ c ∈ Lib.decDigits n, c.toNat ≤ 57 := fun n c hc => (dig_bytes n c hc).2
  have h32 : (32 : UInt8).toNat ≤ 57 := by decide
  cases op with
  | set a n x =>
    obtain ⟨h1, h2, h3⟩ := h
    have p1 := dig_short 5 a (by decide) (by omega)
    have p2 := dig_short 2 n (by decide) (by omega)
    have p3 := dig_short 1 x (by decide) (by omega)
    have e : (BOp.set a n x).word = 115 :: (32 :: (Lib.decDigits a ++ 32 :: (Lib.decDigits n ++ 32 :: Lib.decDigits x))) := by simp [BOp.word, wordOf]
    refine ⟨115, _, e, by decide, by decide, ?_, ?_, 115 :: 32 :: (Lib.decDigits a ++ 32 :: Lib.decDigits n), x, by rw [e]; simp⟩
    · intro c hc
      rcases List.mem_cons.1 hc with rfl | hc
      · exact h32
      rcases List.mem_append.1 hc with hc | hc
      · exact hb _ _ hc
      rcases List.mem_cons.1 hc with rfl | hc
      · exact h32
      rcases List.mem_append.1 hc with hc | hc
      · exact hb _ _ hc
      rcases List.mem_cons.1 hc with rfl | hc
      · exact h32
      exact hb _ _ hc
    · simp only [List.length_cons, List.length_append]; omega
  | drop a n =>
    obtain ⟨h1, h2⟩ := h
    have p1 := dig_short 5 a (by decide) (by omega)
    have p2 := dig_short 2 n (by decide) (by omega)
    have e : (BOp.drop a n).word = 100 :: (32 :: (Lib.decDigits a ++ 32 :: Lib.decDigits n)) := by simp [BOp.word, wordOf]
    refine ⟨100, _, e, by decide, by decide, ?_, ?_, 100 :: 32 :: Lib.decDigits a, n, by rw [e]; simp⟩
    · intro c hc
      rcases List.mem_cons.1 hc with rfl | hc
      · exact h32
      rcases List.mem_append.1 hc with hc | hc
      · exact hb _ _ hc
      rcases List.mem_cons.1 hc with rfl | hc
      · exact h32
      exact hb _ _ hc
    · simp only [List.length_cons, List.length_append]; omega
theorem sum_byte {A B : List UInt8} {x c : UInt8} (hA : A.length < 12) (h : sumB (A ++ c :: B) = sumB (A ++ x :: B)) : c = x := by
  rw [sumB_w, sumB_w, wsum_app, wsum_app, wsum, wsum] at h
  have h1 : (0 + A.length + 1) * c.toNat ≤ 12 * 255 := Nat.mul_le_mul (by omega) (by have := c.toNat_lt; omega)
  have h2 : (0 + A.length + 1) * x.toNat ≤ 12 * 255 := Nat.mul_le_mul (by omega) (by have := x.toNat_lt; omega)
  have h3 : (0 + A.length + 1) * c.toNat = (0 + A.length + 1) * x.toNat := by
    generalize (0 + A.length + 1) * c.toNat = P at *
    generalize (0 + A.length + 1) * x.toNat = Q at *
    omega
  exact UInt8.toNat_inj.1 (Nat.eq_of_mul_eq_mul_left (by omega) h3)
theorem turned {op : BOp} (h : op.fine) {A B : List UInt8} {x c : UInt8} (hb : op.body = A ++ x :: B) (hx : c ≠ x) (b : Bk) : ∃ e : Int, bkLine b (A ++ c :: B) = (b, e) ∧ (e = 2 ∨ e = 6) := by
  refine bk_bad b fun A' n' hl hn => ?_
  obtain ⟨hd, r, ew, hd1, hd2, hr, hrl, W0, m, ew0⟩ := word_facts h
  have hSlt := sumB_lt op.word
  have hnlt := sumB_lt A'
  rw [← hn] at hnlt
  obtain ⟨W, hW⟩ : ∃ W, W = op.word := ⟨_, rfl⟩
  obtain ⟨S, hS⟩ : ∃ S, S = sumB op.word := ⟨_, rfl⟩
  have hbody : A ++ x :: B = W ++ 32 :: Lib.decDigits S := by rw [← hb, hS, hW]
  rw [← hW] at ew ew0 hS
  rw [← hW, ← hS] at hSlt
  have hWl : W.length ≤ 12 := by rw [ew, List.length_cons]; omega
  have hraw : wsum 0 W ≤ 7639 ∧ 100 ≤ wsum 0 W := by
    have h1 := wsum_le 57 r 1 hr
    have h2 : r.length * (1 + r.length) ≤ 11 * 12 := Nat.mul_le_mul hrl (by omega)
    have h3 : 57 * (r.length * (1 + r.length)) ≤ 57 * 132 := Nat.mul_le_mul (Nat.le_refl _) h2
    have h4 : wsum (0 + 1) r = wsum 1 r := rfl
    rw [ew, wsum, h4]; omega
  have hSr : S = wsum 0 W := by rw [hS, sumB_w, Nat.mod_eq_of_lt (by omega)]
  have hD4 := dig_short 4 S (by decide) (by omega)
  have hn4 := dig_short 4 n' (by decide) (by omega)
  rcases List.append_eq_append_iff.1 hbody with ⟨zs, h1, h2⟩ | ⟨zs, h1, h2⟩
  · cases zs with
    | nil =>
      simp only [List.append_nil, List.nil_append, List.cons.injEq] at h1 h2
      obtain ⟨rfl, rfl⟩ := h2
      subst h1
      -- the last space is another byte
      rw [ew0, List.append_assoc, List.cons_append] at hl
      have hno : (32 : UInt8) ∉ Lib.decDigits m ++ c :: Lib.decDigits S := fun hm => by
        rcases List.mem_append.1 hm with hm | hm
        · exact dig_32 _ hm
        · rcases List.mem_cons.1 hm with hm | hm
          · exact hx hm.symm
          · exact dig_32 _ hm
      obtain ⟨-, h4⟩ := last_uniq hl hno (dig_32 _)
      have h5 : 3 ≤ (Lib.decDigits S).length := by
        have := dig_lt S
        rcases Nat.lt_or_ge (Lib.decDigits S).length 3 with h6 | h6
        · have : 10 ^ (Lib.decDigits S).length ≤ 10 ^ 2 := Nat.pow_le_pow_right (by decide) (by omega)
          omega
        · exact h6
      have h6 := congrArg List.length h4
      have h7 : 1 ≤ (Lib.decDigits m).length := by
        cases hdm : Lib.decDigits m with
        | nil => exact absurd hdm (dig_ne m)
        | cons _ _ => simp
      rw [List.length_append, List.length_cons] at h6
      omega
    | cons y ys =>
      -- a byte of the word
      simp only [List.cons_append, List.cons.injEq] at h2
      obtain ⟨rfl, rfl⟩ := h2
      rw [show A ++ c :: (ys ++ 32 :: Lib.decDigits S) = (A ++ c :: ys) ++ 32 :: Lib.decDigits S by simp] at hl
      obtain ⟨h3, h4⟩ := last_uniq hl (dig_32 _) (dig_32 _)
      have h5 := dig_inj (by omega) (by omega) h4
      rw [← h3, ← h5, hS, h1] at hn
      refine hx (sum_byte (A := A) (B := ys) ?_ hn.symm)
      rw [h1, List.length_append, List.length_cons] at hWl; omega
  · cases zs with
    | nil =>
      simp only [List.append_nil, List.nil_append, List.cons.injEq] at h1 h2
      obtain ⟨h2, h3⟩ := h2
      subst h1; subst h3; subst h2
      rw [ew0, List.append_assoc, List.cons_append] at hl
      have hno : (32 : UInt8) ∉ Lib.decDigits m ++ c :: Lib.decDigits S := fun hm => by
        rcases List.mem_append.1 hm with hm | hm
        · exact dig_32 _ hm
        · rcases List.mem_cons.1 hm with hm | hm
          · exact hx hm.symm
          · exact dig_32 _ hm
      obtain ⟨-, h4⟩ := last_uniq hl hno (dig_32 _)
      have h5 : 3 ≤ (Lib.decDigits S).length := by
        have := dig_lt S
        rcases Nat.lt_or_ge (Lib.decDigits S).length 3 with h6 | h6
        · have : 10 ^ (Lib.decDigits S).length ≤ 10 ^ 2 := Nat.pow_le_pow_right (by decide) (by omega)
          omega
        · exact h6
      have h6 := congrArg List.length h4
      have h7 : 1 ≤ (Lib.decDigits m).length := by
        cases hdm : Lib.decDigits m with
        | nil => exact absurd hdm (dig_ne m)
        | cons _ _ => simp
      rw [List.length_append, List.length_cons] at h6
      omega
    | cons y D1 =>
      -- a byte of the sum
      simp only [List.cons_append, List.cons.injEq] at h2
      obtain ⟨rfl, h2⟩ := h2
      rw [h1, List.append_assoc, List.cons_append] at hl
      have hD1 : (32 : UInt8) ∉ D1 := fun hm => dig_32 S (by rw [h2]; exact List.mem_append.2 (.inl hm))
      have hB1 : (32 : UInt8) ∉ B := fun hm => dig_32 S (by rw [h2]; exact List.mem_append.2 (.inr (List.mem_cons_of_mem _ hm)))
      by_cases hc : c = 32
      · subst hc
        rw [show W ++ 32 :: (D1 ++ 32 :: B) = (W ++ 32 :: D1) ++ 32 :: B by simp] at hl
        obtain ⟨h3, h4⟩ := last_uniq hl hB1 (dig_32 _)
        have h5 := congrArg List.length h2
        rw [List.length_append, List.length_cons] at h5
        have h7 : 1 ≤ B.length := by
          cases hdm : B with
          | nil => rw [hdm] at h4; exact absurd h4.symm (dig_ne n')
          | cons _ _ => simp
        have h8 : D1.length ≤ 2 := by omega
        have hDb : ∀ z ∈ D1, z.toNat ≤ 57 := fun z hz => (dig_bytes S z (by rw [h2]; exact List.mem_append.2 (.inl hz))).2
        have h9 := wsum_le 57 D1 (0 + W.length + 1) hDb
        have h10 : D1.length * (0 + W.length + 1 + D1.length) ≤ 2 * 15 := Nat.mul_le_mul h8 (by omega)
        have h11 : (0 + W.length + 1) * (32 : UInt8).toNat ≤ 13 * 32 := Nat.mul_le_mul (by omega) (by decide)
        have h12 : n' = wsum 0 W + ((0 + W.length + 1) * (32 : UInt8).toNat + wsum (0 + W.length + 1) D1) := by
          rw [hn, ← h3, sumB_w, wsum_app, wsum, Nat.mod_eq_of_lt]
          omega
        have h13 := dig_lt n'
        rw [← h4] at h13
        have h14 := dig_ge S (by omega)
        have h15 : 10 ^ B.length ≤ 10 ^ ((Lib.decDigits S).length - 1) := Nat.pow_le_pow_right (by decide) (by omega)
        have h16 : S ≤ n' := by rw [h12, hSr]; exact Nat.le_add_right _ _
        omega
      · have hno : (32 : UInt8) ∉ D1 ++ c :: B := fun hm => by
          rcases List.mem_append.1 hm with hm | hm
          · exact hD1 hm
          · rcases List.mem_cons.1 hm with hm | hm
            · exact hc hm.symm
            · exact hB1 hm
        obtain ⟨h3, h4⟩ := last_uniq hl hno (dig_32 _)
        rw [← h3, ← hS] at hn
        rw [hn, h2] at h4
        simp only [List.append_cancel_left_eq, List.cons.injEq, and_true] at h4
        exact hx h4
/-- One byte of the text turned. -/
theorem turned_run {x c : UInt8} (hx : c ≠ x) (hx10 : x ≠ 10) (hc : c ≠ 10) : ∀ (ops : List BOp) (b0 b : Bk) (A B : List UInt8), (∀ op ∈ ops, op.ok) → runOps b0 ops = some b → textOf ops = A ++ x :: B →
    ∃ b' e, runL opStep b0 (linesOf (A ++ c :: B)) = .inr (b', some e) ∧ (e = 2 ∨ e = 6) ∧ b'.2.2 = b0.2.2 + A.count 10
  | [], b0, b, A, B, _, _, ht => by simp [textOf] at ht
  | op :: r, b0, b, A, B, ho, h, ht => by
    unfold runOps at h
    split at h
    rotate_left
    · cases h
    rename_i h0
    have e : textOf (op :: r) = op.body ++ 10 :: textOf r := by
      unfold textOf
      rw [List.map_cons, List.flatten_cons, op.line_body]; simp
    have hb0 : op.body.count 10 = 0 := List.count_eq_zero.2 fun hm => by
      obtain ⟨k, hk⟩ := List.mem_iff_getElem?.1 hm
      exact op.body_no k hk
    rw [e] at ht
    rcases List.append_eq_append_iff.1 ht with ⟨zs, h1, h2⟩ | ⟨zs, h1, h2⟩
    · cases zs with
      | nil =>
        simp only [List.nil_append, List.cons.injEq] at h2
        exact absurd h2.1.symm hx10
      | cons y ys =>
        simp only [List.cons_append, List.cons.injEq] at h2
        obtain ⟨rfl, h2⟩ := h2
        obtain ⟨b', e', i1, i2, i3⟩ := turned_run hx hx10 hc r _ b ys B (fun o hm => ho o (List.mem_cons_of_mem _ hm)) h h2
        refine ⟨b', e', ?_, i2, ?_⟩
        · rw [h1, List.append_assoc, List.cons_append, linesOf_app op.body_no, runL, ← op.line_body, opStep_line (ho op (List.mem_cons_self ..)), if_pos h0]
          exact i1
        · rw [i3, (app_ok h0).2, h1, List.count_append, hb0, List.count_cons]; simp; omega
    · cases zs with
      | nil =>
        simp only [List.nil_append, List.cons.injEq] at h2
        exact absurd h2.1 hx10
      | cons y ys =>
        simp only [List.cons_append, List.cons.injEq] at h2
        obtain ⟨rfl, h2⟩ := h2
        obtain ⟨e', t1, t2⟩ := turned (fine_of_app h0) h1 hx b0
        have hno : ∀ k : Nat, (A ++ c :: ys)[k]? ≠ some 10 := fun k hk => by
          have hm : (10 : UInt8) ∈ A ++ c :: ys := List.mem_iff_getElem?.2 ⟨k, hk⟩
          have hn0 : (10 : UInt8) ∉ op.body := List.count_eq_zero.1 hb0
          rcases List.mem_append.1 hm with hm | hm
          · exact hn0 (by rw [h1]; exact List.mem_append.2 (.inl hm))
          · rcases List.mem_cons.1 hm with hm | hm
            · exact hc hm.symm
            · exact hn0 (by rw [h1]; exact List.mem_append.2 (.inr (List.mem_cons_of_mem _ hm)))
        have hA0 : A.count 10 = 0 := List.count_eq_zero.2 fun hm => (List.count_eq_zero.1 hb0) (by rw [h1]; exact List.mem_append.2 (.inl hm))
        refine ⟨b0, e', ?_, t2, by rw [hA0]; rfl⟩
        rw [h2, show A ++ c :: (ys ++ 10 :: textOf r) = (A ++ c :: ys) ++ 10 :: textOf r by simp, linesOf_app hno, runL]
        have k1 : Lib.hasSuffix ((A ++ c :: ys) ++ [10]) [10] = true := by
          unfold Lib.hasSuffix
          rw [List.isSuffixOf_iff_suffix]
          exact List.suffix_append _ _
        have k2 : Lib.trimSuffix ((A ++ c :: ys) ++ [10]) [10] = A ++ c :: ys := by
          unfold Lib.trimSuffix
          rw [if_pos k1, List.length_append, List.length_singleton, Nat.add_sub_cancel, List.take_left]
        have k3 : opStep b0 ((A ++ c :: ys) ++ [10]) = .inr (b0, some e') := by
          unfold opStep
          rw [k1, if_neg (by decide), k2, t1]
          simp only
          rw [if_neg (by rcases t2 with rfl | rfl <;> decide)]
        rw [k3]
theorem turned_text {b : Bk} {ops : List BOp} (h : Made b ops) (hok : b.2.2 ≤ 60) {A B : List UInt8} {x c : UInt8} (ht : b.2.1 = A ++ x :: B) (hx : c ≠ x) (hx10 : x ≠ 10) (hc : c ≠ 10) :
    ∃ e : Int, openB (A ++ c :: B) = (none, A.count 10 + 1, e) ∧ (e = 2 ∨ e = 6) := by
  obtain ⟨e1, e2⟩ := h.text
  obtain ⟨b', e, h1, h2, h3⟩ := turned_run hx hx10 hc ops ([], [], 0) b A B h.1 h.2 (by rw [← e1]; exact ht)
  have hs := text_short h.1
  have hl : (A ++ c :: B).length ≤ 2000 := by
    have h4 := congrArg List.length ht
    rw [e1] at h4
    simp only [List.length_append, List.length_cons] at h4 ⊢
    omega
  refine ⟨e, ?_, h2⟩
  unfold openB
  rw [if_neg (by omega), h1]
  simp only
  rw [h3]; simp
end Go.Proofs.YtbcfcjecobihnaaGreatDoor
