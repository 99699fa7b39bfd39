/- Plain: prefixes as paths of bits; a tree of bits, its routes in order. -/
import Derived.Test.YtbcfcjecobihnaaDoorRows
namespace Go.Proofs.YtbcfcjecobihnaaDoor
set_option linter.unusedVariables false

/-! ### Paths -/
def lpAcc (π : List Bool) : Nat := π.foldl (fun n b => 2 * n + b.toNat) 0
def lpAddr (π : List Bool) : Nat := lpAcc π * 2 ^ (16 - π.length)
def lpPath (a n : Nat) : List Bool := (List.range n).map fun i => a / 2 ^ (15 - i) % 2 == 1
theorem lpAcc_snoc (π : List Bool) (b : Bool) : lpAcc (π ++ [b]) = 2 * lpAcc π + b.toNat := by unfold lpAcc; rw [List.foldl_append]; rfl
theorem lpPath_len (a n : Nat) : (lpPath a n).length = n := by simp [lpPath]
theorem lpPath_succ (a n : Nat) : lpPath a (n + 1) = lpPath a n ++ [a / 2 ^ (15 - n) % 2 == 1] := by unfold lpPath; rw [List.range_succ, List.map_append]; rfl
theorem toNat_bit (n : Nat) : (n % 2 == 1).toNat = n % 2 := by
  rcases Nat.mod_two_eq_zero_or_one n with h | h <;> rw [h] <;> rfl
theorem lpAcc_path {a : Nat} (ha : a < 65536) : ∀ n, n ≤ 16 → lpAcc (lpPath a n) = a / 2 ^ (16 - n)
  | 0, _ => by rw [Nat.div_eq_of_lt (by simpa using ha)]; rfl
  | n + 1, h => by
    rw [lpPath_succ, lpAcc_snoc, lpAcc_path ha n (by omega), toNat_bit]
    have e : 2 ^ (16 - n) = 2 ^ (15 - n) * 2 := by rw [show 16 - n = 15 - n + 1 by omega, Nat.pow_succ]
    rw [e, ← Nat.div_div_eq_div_mul, show 16 - (n + 1) = 15 - n by omega]
    have := Nat.div_add_mod (a / 2 ^ (15 - n)) 2
    omega
theorem lpAddr_path {a n : Nat} (ha : a < 65536) (hn : n ≤ 16) : lpAddr (lpPath a n) = a - a % 2 ^ (16 - n) := by
  unfold lpAddr
  rw [lpAcc_path ha n hn, lpPath_len]
  have := Nat.div_add_mod a (2 ^ (16 - n))
  rw [Nat.mul_comm] at this
  omega
/-- A prefix that may be: its path tells it. -/
def lpOk (a n : Nat) : Prop := a < 65536 ∧ n ≤ 16 ∧ a % 2 ^ (16 - n) = 0
theorem lpAddr_ok {a n : Nat} (h : lpOk a n) : lpAddr (lpPath a n) = a := by rw [lpAddr_path h.1 h.2.1, h.2.2]; rfl
theorem lpAcc_lt : ∀ (π : List Bool), lpAcc π < 2 ^ π.length := by
  intro π
  induction h : π.length generalizing π with
  | zero => rw [List.length_eq_zero_iff.1 h]; decide
  | succ n ih =>
    obtain ⟨σ, b, rfl⟩ : ∃ σ b, π = σ ++ [b] := ⟨π.dropLast, π.getLast (by intro e; rw [e] at h; cases h), (List.dropLast_concat_getLast _).symm⟩
    rw [List.length_append, List.length_singleton] at h
    have := ih σ (by omega)
    rw [lpAcc_snoc, Nat.pow_succ]
    cases b <;> simp <;> omega
/-- All paths below one lie in its range. -/
theorem lpAcc_app (π : List Bool) : ∀ τ : List Bool, lpAcc π * 2 ^ τ.length ≤ lpAcc (π ++ τ) ∧ lpAcc (π ++ τ) < (lpAcc π + 1) * 2 ^ τ.length := by
  intro τ
  induction h : τ.length generalizing τ with
  | zero => rw [List.length_eq_zero_iff.1 h]; simp
  | succ n ih =>
    obtain ⟨σ, b, rfl⟩ : ∃ σ b, τ = σ ++ [b] := ⟨τ.dropLast, τ.getLast (by intro e; rw [e] at h; cases h), (List.dropLast_concat_getLast _).symm⟩
    rw [List.length_append, List.length_singleton] at h
    obtain ⟨h1, h2⟩ := ih σ (by omega)
    rw [← List.append_assoc, lpAcc_snoc, Nat.pow_succ]
    have e1 : lpAcc π * (2 ^ n * 2) = (lpAcc π * 2 ^ n) * 2 := by rw [Nat.mul_assoc]
    have e2 : (lpAcc π + 1) * (2 ^ n * 2) = ((lpAcc π + 1) * 2 ^ n) * 2 := by rw [Nat.mul_assoc]
    rw [e1, e2]
    cases b <;> simp <;> omega
theorem lpAddr_range {π τ : List Bool} (h : (π ++ τ).length ≤ 16) : lpAcc π * 2 ^ (16 - π.length) ≤ lpAddr (π ++ τ) ∧ lpAddr (π ++ τ) < (lpAcc π + 1) * 2 ^ (16 - π.length) := by
  obtain ⟨h1, h2⟩ := lpAcc_app π τ
  unfold lpAddr
  rw [List.length_append] at h ⊢
  have e : 2 ^ (16 - π.length) = 2 ^ τ.length * 2 ^ (16 - (π.length + τ.length)) := by rw [← Nat.pow_add]; congr 1; omega
  have hp : 0 < 2 ^ (16 - (π.length + τ.length)) := Nat.two_pow_pos _
  rw [e, ← Nat.mul_assoc, ← Nat.mul_assoc]
  exact ⟨Nat.mul_le_mul_right _ h1, Nat.mul_lt_mul_of_pos_right h2 hp⟩
theorem lpAddr_lt (π : List Bool) (h : π.length ≤ 16) : lpAddr π < 65536 := by
  have := (lpAddr_range (π := []) (τ := π) (by simpa using h)).2
  simpa [lpAcc] using this
theorem lpAddr_snoc (π : List Bool) (b : Bool) (h : π.length ≤ 15) : lpAddr (π ++ [b]) = lpAddr π + b.toNat * 2 ^ (15 - π.length) := by
  unfold lpAddr
  rw [lpAcc_snoc, List.length_append, List.length_singleton, show 16 - (π.length + 1) = 15 - π.length by omega]
  have e : 2 ^ (16 - π.length) = 2 * 2 ^ (15 - π.length) := by rw [show 16 - π.length = 15 - π.length + 1 by omega, Nat.pow_succ, Nat.mul_comm]
  rw [e, Nat.add_mul, Nat.mul_comm 2 (lpAcc π), Nat.mul_assoc]
theorem lpAddr_div (π : List Bool) : lpAddr π % 2 ^ (16 - π.length) = 0 := by unfold lpAddr; exact Nat.mul_mod_left _ _
theorem lpAddr_isOk {π : List Bool} (h : π.length ≤ 16) : lpOk (lpAddr π) π.length := ⟨lpAddr_lt π h, h, lpAddr_div π⟩
/-- A path is told by its address and its length. -/
theorem lpAcc_inj : ∀ {π σ : List Bool}, π.length = σ.length → lpAcc π = lpAcc σ → π = σ := by
  intro π
  induction h : π.length generalizing π with
  | zero => intro σ h1 _; rw [List.length_eq_zero_iff.1 h, List.length_eq_zero_iff.1 h1.symm]
  | succ n ih =>
    intro σ h1 h2
    obtain ⟨α, b, rfl⟩ : ∃ α b, π = α ++ [b] := ⟨π.dropLast, π.getLast (by intro e; rw [e] at h; cases h), (List.dropLast_concat_getLast _).symm⟩
    obtain ⟨β, c, rfl⟩ : ∃ β c, σ = β ++ [c] := ⟨σ.dropLast, σ.getLast (by intro e; rw [e] at h1; cases h1), (List.dropLast_concat_getLast _).symm⟩
    rw [List.length_append, List.length_singleton] at h h1
    rw [lpAcc_snoc, lpAcc_snoc] at h2
    have hb : b = c := by cases b <;> cases c <;> simp at h2 ⊢ <;> omega
    subst hb
    rw [@ih α (by omega) β (by omega) (by omega)]
theorem lpPath_addr {π : List Bool} (h : π.length ≤ 16) : lpPath (lpAddr π) π.length = π := by
  refine lpAcc_inj (lpPath_len _ _) ?_
  rw [lpAcc_path (lpAddr_lt π h) _ h]
  unfold lpAddr
  exact Nat.mul_div_cancel _ (Nat.two_pow_pos _)

/-! ### Trees -/
inductive LT where
  | nil : LT
  | node (b : Nat) (h : Int) (l r : LT) : LT
def LT.kid : LT → Bool → LT
  | .nil, _ => .nil
  | .node _ _ l r, b => if b then r else l
def LT.sub : LT → List Bool → LT
  | t, [] => t
  | t, b :: π => (t.kid b).sub π
def LT.hop : LT → Int
  | .nil => -1
  | .node _ h _ _ => h
/-- No node beyond so many steps. -/
def LT.deep : LT → Nat → Prop
  | .nil, _ => True
  | .node _ _ _ _, 0 => False
  | .node _ _ l r, n + 1 => l.deep n ∧ r.deep n
theorem LT.sub_nil : ∀ π : List Bool, LT.nil.sub π = .nil
  | [] => rfl
  | _ :: π => LT.sub_nil π
theorem LT.sub_app : ∀ (t : LT) (π σ : List Bool), t.sub (π ++ σ) = (t.sub π).sub σ
  | _, [], _ => rfl
  | t, b :: π, σ => LT.sub_app (t.kid b) π σ
theorem LT.sub_snoc (t : LT) (π : List Bool) (b : Bool) : t.sub (π ++ [b]) = (t.sub π).kid b := by rw [LT.sub_app]; rfl
/-- The tree with what stands at a path replaced. -/
def LT.repl : LT → List Bool → LT → LT
  | _, [], u => u
  | .nil, _ :: _, _ => .nil
  | .node n h l r, false :: π, u => .node n h (l.repl π u) r
  | .node n h l r, true :: π, u => .node n h l (r.repl π u)
theorem LT.sub_repl : ∀ (t : LT) (π : List Bool) (u : LT), t.sub π ≠ .nil → (t.repl π u).sub π = u
  | _, [], _, _ => by simp [LT.repl, LT.sub]
  | .nil, _ :: π, _, h => absurd (LT.sub_nil π) h
  | .node n h l r, false :: π, u, hn => LT.sub_repl l π u hn
  | .node n h l r, true :: π, u, hn => LT.sub_repl r π u hn
/-- The hop at a path. -/
def LT.at (t : LT) (π : List Bool) : Int := (t.sub π).hop
theorem LT.at_cons (n : Nat) (h : Int) (l r : LT) (b : Bool) (π : List Bool) : (LT.node n h l r).at (b :: π) = (if b then r else l).at π := rfl
theorem LT.at_nil (π : List Bool) : LT.nil.at π = -1 := by unfold LT.at; rw [LT.sub_nil]; rfl
/-- Hops of a tree with a part replaced. -/
theorem LT.at_repl : ∀ (t : LT) (π σ : List Bool) (u : LT), t.sub π ≠ .nil → (∀ τ, u.at τ = (t.sub π).at τ ∨ π ++ τ = σ) → ∀ ρ, ρ ≠ σ → (t.repl π u).at ρ = t.at ρ
  | t, [], σ, u, _, h, ρ, hr => by
    simp only [LT.repl]
    rcases h ρ with h | h
    · exact h
    · exact absurd h hr
  | .nil, _ :: π, _, _, hn, _, _, _ => absurd (LT.sub_nil π) hn
  | .node n hp l r, false :: π, σ, u, hn, h, ρ, hr => by
    simp only [LT.repl]
    match ρ with
    | [] => rfl
    | true :: ρ => rfl
    | false :: ρ =>
      rw [LT.at_cons, LT.at_cons]
      simp only [Bool.false_eq_true, if_false]
      by_cases hs : ∃ σ', σ = false :: σ'
      · obtain ⟨σ', rfl⟩ := hs
        exact LT.at_repl l π σ' u hn (fun τ => (h τ).imp id fun e => by simpa using e) ρ (fun e => hr (by rw [e]))
      · refine LT.at_repl l π (ρ ++ [true]) u hn (fun τ => ?_) ρ (by simp)
        rcases h τ with h | h
        · exact .inl h
        · exact absurd ⟨π ++ τ, h.symm⟩ hs
  | .node n hp l r, true :: π, σ, u, hn, h, ρ, hr => by
    simp only [LT.repl]
    match ρ with
    | [] => rfl
    | false :: ρ => rfl
    | true :: ρ =>
      rw [LT.at_cons, LT.at_cons]
      simp only [if_true]
      by_cases hs : ∃ σ', σ = true :: σ'
      · obtain ⟨σ', rfl⟩ := hs
        exact LT.at_repl r π σ' u hn (fun τ => (h τ).imp id fun e => by simpa using e) ρ (fun e => hr (by rw [e]))
      · refine LT.at_repl r π (ρ ++ [true]) u hn (fun τ => ?_) ρ (by simp)
        rcases h τ with h | h
        · exact .inl h
        · exact absurd ⟨π ++ τ, h.symm⟩ hs
theorem LT.deep_nil (n : Nat) : LT.nil.deep n := by cases n <;> trivial
theorem LT.deep_repl : ∀ (t : LT) (π : List Bool) (u : LT) (n : Nat), t.deep n → t.sub π ≠ .nil → u.deep (n - π.length) → (t.repl π u).deep n
  | _, [], u, n, _, _, h => by simpa [LT.repl] using h
  | .nil, _ :: π, _, _, _, hn, _ => absurd (LT.sub_nil π) hn
  | .node _ _ l r, _ :: _, _, 0, h, _, _ => h.elim
  | .node k hp l r, false :: π, u, n + 1, h, hn, hu => ⟨LT.deep_repl l π u n h.1 hn (by simpa using hu), h.2⟩
  | .node k hp l r, true :: π, u, n + 1, h, hn, hu => ⟨h.1, LT.deep_repl r π u n h.2 hn (by simpa using hu)⟩
theorem LT.deep_sub : ∀ (t : LT) (π : List Bool) (n : Nat), t.deep n → (t.sub π).deep (n - π.length)
  | t, [], n, h => by simpa [LT.sub] using h
  | .nil, _ :: π, n, _ => by unfold LT.sub LT.kid; rw [LT.sub_nil]; exact LT.deep_nil _
  | .node _ _ l r, _ :: _, 0, h => h.elim
  | .node k hp l r, false :: π, n + 1, h => by have := LT.deep_sub l π n h.1; simpa [LT.sub, LT.kid] using this
  | .node k hp l r, true :: π, n + 1, h => by have := LT.deep_sub r π n h.2; simpa [LT.sub, LT.kid] using this
theorem LT.deep_len {t : LT} {π : List Bool} (h : t.deep 17) (hs : t.sub π ≠ .nil) : π.length ≤ 16 := by
  have := LT.deep_sub t π 17 h
  rcases Nat.lt_or_ge 16 π.length with h1 | h1
  · rw [show 17 - π.length = 0 by omega] at this
    cases hk : t.sub π with
    | nil => exact absurd hk hs
    | node _ _ _ _ => rw [hk] at this; exact this.elim
  · exact h1

/-! ### Routes -/
/-- Address, length, hop. -/
abbrev Rte := Nat × Nat × Nat
def ltR (x y : Rte) : Prop := x.1 < y.1 ∨ (x.1 = y.1 ∧ x.2.1 < y.2.1)
instance (x y : Rte) : Decidable (ltR x y) := by unfold ltR; infer_instance
def SrtR (l : List Rte) : Prop := l.Pairwise ltR
def LT.rts : LT → List Bool → List Rte
  | .nil, _ => []
  | .node _ h l r, π => (if 0 ≤ h then [(lpAddr π, π.length, h.toNat)] else []) ++ l.rts (π ++ [false]) ++ r.rts (π ++ [true])
theorem LT.mem_rts : ∀ (t : LT) (π : List Bool) (x : Rte), x ∈ t.rts π ↔ ∃ τ, x = (lpAddr (π ++ τ), (π ++ τ).length, (t.at τ).toNat) ∧ 0 ≤ t.at τ
  | .nil, π, x => by
    simp only [LT.rts, List.not_mem_nil, false_iff]
    rintro ⟨τ, _, h⟩
    rw [LT.at_nil] at h; omega
  | .node b h l r, π, x => by
    simp only [LT.rts, List.mem_append]
    rw [LT.mem_rts l, LT.mem_rts r]
    constructor
    · rintro ((h1 | ⟨τ, h1, h2⟩) | ⟨τ, h1, h2⟩)
      · by_cases h0 : 0 ≤ h
        · rw [if_pos h0] at h1
          exact ⟨[], by rw [List.mem_singleton.1 h1, List.append_nil]; rfl, h0⟩
        · rw [if_neg h0] at h1; simp at h1
      · exact ⟨false :: τ, by simpa [LT.at, LT.sub, LT.kid] using h1, h2⟩
      · exact ⟨true :: τ, by simpa [LT.at, LT.sub, LT.kid] using h1, h2⟩
    · rintro ⟨τ, h1, h2⟩
      match τ, h1, h2 with
      | [], h1, h2 =>
        refine .inl (.inl ?_)
        have h0 : 0 ≤ h := h2
        rw [if_pos h0, h1]
        simp [LT.at, LT.sub, LT.hop]
      | false :: τ, h1, h2 => exact .inl (.inr ⟨τ, by simpa [LT.at, LT.sub, LT.kid] using h1, h2⟩)
      | true :: τ, h1, h2 => exact .inr ⟨τ, by simpa [LT.at, LT.sub, LT.kid] using h1, h2⟩
theorem LT.at_deep {t : LT} {n : Nat} {τ : List Bool} (h : t.deep n) (h0 : 0 ≤ t.at τ) : τ.length < n := by
  have h1 := LT.deep_sub t τ n h
  rcases Nat.lt_or_ge τ.length n with h2 | h2
  · exact h2
  · rw [show n - τ.length = 0 by omega] at h1
    unfold LT.at at h0
    cases hk : t.sub τ with
    | nil => rw [hk] at h0; exact absurd h0 (by simp [LT.hop])
    | node _ _ _ _ => rw [hk] at h1; exact h1.elim
theorem LT.rts_srt : ∀ (t : LT) (π : List Bool) (n : Nat), t.deep n → π.length + n ≤ 17 → SrtR (t.rts π)
  | .nil, _, _, _, _ => List.Pairwise.nil
  | .node _ _ _ _, _, 0, h, _ => h.elim
  | .node b h l r, π, n + 1, hd, hn => by
    have hl := LT.rts_srt l (π ++ [false]) n hd.1 (by simp; omega)
    have hr := LT.rts_srt r (π ++ [true]) n hd.2 (by simp; omega)
    have e2 : 2 ^ (16 - π.length) = 2 * 2 ^ (15 - π.length) ∨ n = 0 := by
      by_cases h0 : n = 0
      · exact .inr h0
      · left; rw [show 16 - π.length = 15 - π.length + 1 by omega, Nat.pow_succ, Nat.mul_comm]
    refine List.pairwise_append.2 ⟨List.pairwise_append.2 ⟨?_, hl, ?_⟩, hr, ?_⟩
    · split <;> simp
    · intro x hx y hy
      split at hx
      · rw [List.mem_singleton.1 hx]
        obtain ⟨τ, rfl, h0⟩ := (LT.mem_rts l _ y).1 hy
        have hlen := LT.at_deep hd.1 h0
        have := (lpAddr_range (π := π) (τ := [false] ++ τ) (by simp; omega)).1
        unfold ltR
        simp only [List.append_assoc] at this ⊢
        have e : lpAcc π * 2 ^ (16 - π.length) = lpAddr π := rfl
        rw [e] at this
        simp only [List.length_append, List.length_cons, List.length_nil]
        omega
      · simp at hx
    · intro x hx y hy
      obtain ⟨τ', rfl, h0'⟩ := (LT.mem_rts r _ y).1 hy
      have hlen' := LT.at_deep hd.2 h0'
      have g2 := (lpAddr_range (π := π ++ [true]) (τ := τ') (by simp; omega)).1
      rw [lpAcc_snoc] at g2
      simp only [List.length_append, List.length_singleton, Bool.toNat_true] at g2
      rw [show 16 - (π.length + 1) = 15 - π.length by omega] at g2
      have hp : 0 < 2 ^ (15 - π.length) := Nat.two_pow_pos _
      have key : ∀ z : Nat, z < (2 * lpAcc π + 1) * 2 ^ (15 - π.length) → ltR (z, 0, 0) (lpAddr (π ++ [true] ++ τ'), 0, 0) := fun z hz => .inl (Nat.lt_of_lt_of_le hz g2)
      have e3 : 2 ^ (16 - π.length) = 2 * 2 ^ (15 - π.length) := by rcases e2 with h | h; exact h; omega
      rcases List.mem_append.1 hx with hx | hx
      · split at hx
        · rw [List.mem_singleton.1 hx]
          refine .inl (Nat.lt_of_lt_of_le ?_ g2)
          show lpAcc π * 2 ^ (16 - π.length) < _
          rw [e3, ← Nat.mul_assoc, Nat.mul_comm (lpAcc π) 2, Nat.add_mul]; omega
        · simp at hx
      · obtain ⟨τ, rfl, h0⟩ := (LT.mem_rts l _ x).1 hx
        have hlen := LT.at_deep hd.1 h0
        have g1 := (lpAddr_range (π := π ++ [false]) (τ := τ) (by simp; omega)).2
        rw [lpAcc_snoc] at g1
        simp only [List.length_append, List.length_singleton, Bool.toNat_false, Nat.add_zero] at g1
        rw [show 16 - (π.length + 1) = 15 - π.length by omega] at g1
        exact .inl (Nat.lt_of_lt_of_le g1 g2)
theorem ltR_irrefl (x : Rte) : ¬ ltR x x := by unfold ltR; omega
theorem ltR_trans {x y z : Rte} (h : ltR x y) (g : ltR y z) : ltR x z := by unfold ltR at *; omega
/-- Two rising rows with the same things are the same. -/
theorem srtR_uniq : ∀ {a b : List Rte}, SrtR a → SrtR b → (∀ x, x ∈ a ↔ x ∈ b) → a = b
  | [], [], _, _, _ => rfl
  | [], y :: b, _, _, h => absurd ((h y).2 (List.mem_cons_self ..)) (by simp)
  | x :: a, [], _, _, h => absurd ((h x).1 (List.mem_cons_self ..)) (by simp)
  | x :: a, y :: b, ha, hb, h => by
    have ha' := List.pairwise_cons.1 ha
    have hb' := List.pairwise_cons.1 hb
    have hxy : x = y := by
      rcases List.mem_cons.1 ((h x).1 (List.mem_cons_self ..)) with e | e
      · exact e
      · rcases List.mem_cons.1 ((h y).2 (List.mem_cons_self ..)) with e2 | e2
        · exact e2.symm
        · exact absurd (ltR_trans (ha'.1 y e2) (hb'.1 x e)) (ltR_irrefl x)
    subst hxy
    rw [srtR_uniq ha'.2 hb'.2 fun z => ?_]
    constructor
    · intro hz
      rcases List.mem_cons.1 ((h z).1 (List.mem_cons_of_mem _ hz)) with e | e
      · subst e; exact absurd (ha'.1 z hz) (ltR_irrefl z)
      · exact e
    · intro hz
      rcases List.mem_cons.1 ((h z).2 (List.mem_cons_of_mem _ hz)) with e | e
      · subst e; exact absurd (hb'.1 z hz) (ltR_irrefl z)
      · exact e
end Go.Proofs.YtbcfcjecobihnaaDoor
