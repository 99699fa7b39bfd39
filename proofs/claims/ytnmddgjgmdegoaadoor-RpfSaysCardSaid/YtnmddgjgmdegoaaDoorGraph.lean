/- Plain: walks over directed edges, the least sums of costs over so many edges (bell), the distance (far), the first hop (hopOf). No program in sight. -/
import Derived.Test.YtnmddgjgmdegoaaDoorMaxPlain
namespace Go.Proofs.YtnmddgjgmdegoaaDoor
set_option linter.unusedVariables false

abbrev Edge := Nat × Nat × Int
structure Net (n : Nat) (E : List Edge) : Prop where
  dom : ∀ u v c, (u, v, c) ∈ E → u < n ∧ v < n ∧ u ≠ v ∧ 1 ≤ c ∧ c ≤ 20
  sym : ∀ u v c, (u, v, c) ∈ E → (v, u, c) ∈ E

inductive Wk (E : List Edge) : Nat → Nat → Nat → Int → Prop
  | nil (u : Nat) : Wk E 0 u u 0
  | cons {k u w v : Nat} {c d : Int} : (u, w, c) ∈ E → Wk E k w v d → Wk E (k + 1) u v (c + d)

variable {n : Nat} {E : List Edge}

theorem Wk.app {j k u w v : Nat} {c d : Int} (h : Wk E j u w c) (g : Wk E k w v d) : Wk E (j + k) u v (c + d) := by
  induction h with
  | nil u => simpa using g
  | cons he _ ih =>
    have := Wk.cons he (ih g)
    rw [show ∀ a b : Nat, a + 1 + b = (a + b) + 1 from fun a b => by omega, Int.add_assoc]; exact this
theorem Wk.one {u w : Nat} {c : Int} (he : (u, w, c) ∈ E) : Wk E 1 u w c := by
  have := Wk.cons he (Wk.nil w); simpa using this
theorem Wk.snoc {k u w v : Nat} {c d : Int} (h : Wk E k u w d) (he : (w, v, c) ∈ E) : Wk E (k + 1) u v (d + c) := h.app (Wk.one he)
theorem Wk.rev (hn : Net n E) {k u v : Nat} {d : Int} (h : Wk E k u v d) : Wk E k v u d := by
  induction h with
  | nil u => exact Wk.nil u
  | cons he _ ih =>
    have := ih.snoc (hn.sym _ _ _ he)
    rw [Int.add_comm] at this; exact this
theorem Wk.pos (hn : Net n E) {k u v : Nat} {d : Int} (h : Wk E k u v d) : (k : Int) ≤ d := by
  induction h with
  | nil u => exact Int.le_refl _
  | cons he _ ih => have := hn.dom _ _ _ he; omega
theorem Wk.top (hn : Net n E) {k u v : Nat} {d : Int} (h : Wk E k u v d) : d ≤ 20 * (k : Int) := by
  induction h with
  | nil u => exact Int.le_refl _
  | cons he _ ih => have := hn.dom _ _ _ he; omega
theorem Wk.zero {u v : Nat} {d : Int} (h : Wk E 0 u v d) : u = v ∧ d = 0 := by cases h; exact ⟨rfl, rfl⟩
theorem Wk.last {k : Nat} : ∀ {u v : Nat} {d : Int}, Wk E (k + 1) u v d → ∃ w c d', Wk E k u w d' ∧ (w, v, c) ∈ E ∧ d = d' + c := by
  induction k with
  | zero =>
    intro u v d h
    cases h with
    | cons he hw => obtain ⟨rfl, rfl⟩ := hw.zero; exact ⟨u, _, 0, Wk.nil u, he, by omega⟩
  | succ k ih =>
    intro u v d h
    cases h with
    | cons he hw =>
      obtain ⟨w, c, d', h1, h2, rfl⟩ := ih hw
      exact ⟨w, c, _, Wk.cons he h1, h2, by omega⟩

inductive Sp (E : List Edge) : List Nat → Nat → Nat → Int → Prop
  | nil (u : Nat) : Sp E [u] u u 0
  | cons {l : List Nat} {u w v : Nat} {c d : Int} : (u, w, c) ∈ E → Sp E l w v d → u ∉ l → Sp E (u :: l) u v (c + d)
theorem Sp.wk {l : List Nat} {u v : Nat} {d : Int} (h : Sp E l u v d) : Wk E (l.length - 1) u v d ∧ 1 ≤ l.length := by
  induction h with
  | nil u => exact ⟨Wk.nil u, Nat.le_refl _⟩
  | cons he hs hu ih =>
    refine ⟨?_, by simp⟩
    have := Wk.cons he ih.1
    rw [List.length_cons, show ∀ m : Nat, 1 ≤ m → m + 1 - 1 = (m - 1) + 1 from fun m hm => by omega]
    · exact this
    · exact ih.2
theorem Sp.part (hn : Net n E) {l : List Nat} {w v : Nat} {d : Int} (h : Sp E l w v d) : ∀ u ∈ l, ∃ l' d', Sp E l' u v d' ∧ d' ≤ d := by
  induction h with
  | nil u => intro x hx; rw [List.mem_singleton] at hx; subst hx; exact ⟨_, _, Sp.nil x, Int.le_refl _⟩
  | cons he hs hu ih =>
    intro x hx
    rcases List.mem_cons.1 hx with rfl | hx
    · exact ⟨_, _, Sp.cons he hs hu, Int.le_refl _⟩
    · obtain ⟨l', d', h1, h2⟩ := ih x hx
      have := hn.dom _ _ _ he
      exact ⟨l', d', h1, by omega⟩
theorem Sp.few (hn : Net n E) {l : List Nat} {u v : Nat} {d : Int} (hv : v < n) (h : Sp E l u v d) : l.Nodup ∧ ∀ x ∈ l, x < n := by
  induction h with
  | nil u => exact ⟨by simp, fun x hx => by rw [List.mem_singleton] at hx; subst hx; exact hv⟩
  | cons he hs hu ih =>
    have ih := ih hv
    exact ⟨List.nodup_cons.2 ⟨hu, ih.1⟩, fun x hx => by
      rcases List.mem_cons.1 hx with rfl | hx
      · exact (hn.dom _ _ _ he).1
      · exact ih.2 x hx⟩
theorem Wk.simple (hn : Net n E) {k u v : Nat} {d : Int} (h : Wk E k u v d) : ∃ l d', Sp E l u v d' ∧ d' ≤ d := by
  induction h with
  | nil u => exact ⟨_, _, Sp.nil u, Int.le_refl _⟩
  | @cons k u w v c d he hw ih =>
    obtain ⟨l, d', hs, hd⟩ := ih
    have := hn.dom _ _ _ he
    by_cases hu : u ∈ l
    · obtain ⟨l2, d2, h1, h2⟩ := hs.part hn u hu
      exact ⟨l2, d2, h1, by omega⟩
    · exact ⟨_, _, Sp.cons he hs hu, by omega⟩
theorem Wk.short (hn : Net n E) {k u v : Nat} {d : Int} (hv : v < n) (h : Wk E k u v d) : ∃ j d', j ≤ n - 1 ∧ Wk E j u v d' ∧ d' ≤ d := by
  obtain ⟨l, d', hs, hd⟩ := h.simple hn
  have := hs.few hn hv
  have h2 := nodup_len n l this.1 this.2
  exact ⟨l.length - 1, d', by omega, hs.wk.1, hd⟩

/-- The least sum over at most k edges. -/
def Lst (E : List Edge) (k u v : Nat) (d : Int) : Prop := (d = 1000 ∨ ∃ j, j ≤ k ∧ Wk E j u v d) ∧ d ≤ 1000 ∧ ∀ j c, j ≤ k → Wk E j u v c → d ≤ c
def Dst (E : List Edge) (u v : Nat) (d : Int) : Prop := (d = 1000 ∨ ∃ j, Wk E j u v d) ∧ d ≤ 1000 ∧ ∀ j c, Wk E j u v c → d ≤ c
theorem Lst.unique {k u v : Nat} {a b : Int} (h : Lst E k u v a) (g : Lst E k u v b) : a = b := by
  obtain ⟨h1, h2, h3⟩ := h
  obtain ⟨g1, g2, g3⟩ := g
  have e1 : a ≤ b := by
    rcases g1 with rfl | ⟨j, hj, hw⟩
    · exact h2
    · exact h3 j _ hj hw
  have e2 : b ≤ a := by
    rcases h1 with rfl | ⟨j, hj, hw⟩
    · exact g2
    · exact g3 j _ hj hw
  omega
theorem Dst.unique {u v : Nat} {a b : Int} (h : Dst E u v a) (g : Dst E u v b) : a = b := by
  obtain ⟨h1, h2, h3⟩ := h
  obtain ⟨g1, g2, g3⟩ := g
  have e1 : a ≤ b := by
    rcases g1 with rfl | ⟨j, hw⟩
    · exact h2
    · exact h3 j _ hw
  have e2 : b ≤ a := by
    rcases h1 with rfl | ⟨j, hw⟩
    · exact g2
    · exact g3 j _ hw
  omega
theorem Lst.dst (hn : Net n E) {k u v : Nat} {d : Int} (hv : v < n) (hk : n - 1 ≤ k) (h : Lst E k u v d) : Dst E u v d := by
  obtain ⟨h1, h2, h3⟩ := h
  refine ⟨?_, h2, fun j c hw => ?_⟩
  · rcases h1 with h | ⟨j, _, hw⟩
    · exact .inl h
    · exact .inr ⟨j, hw⟩
  · obtain ⟨i, d', hi, hw', hd⟩ := hw.short hn hv
    have := h3 i d' (by omega) hw'
    omega
theorem Dst.lst (hn : Net n E) {k u v : Nat} {d : Int} (hv : v < n) (hk : n - 1 ≤ k) (h : Dst E u v d) : Lst E k u v d := by
  obtain ⟨h1, h2, h3⟩ := h
  refine ⟨?_, h2, fun j c _ hw => h3 j c hw⟩
  rcases h1 with h | ⟨j, hw⟩
  · exact .inl h
  · obtain ⟨i, d', hi, hw', hd⟩ := hw.short hn hv
    have := h3 _ _ hw'
    obtain rfl : d' = d := by omega
    exact .inr ⟨i, by omega, hw'⟩
theorem Lst.mono {j k u v : Nat} {a b : Int} (hjk : j ≤ k) (h : Lst E j u v a) (g : Lst E k u v b) : b ≤ a := by
  rcases h.1 with rfl | ⟨i, hi, hw⟩
  · exact g.2.1
  · exact g.2.2 i _ (by omega) hw
theorem Lst.swap (hn : Net n E) {k u v : Nat} {d : Int} (h : Lst E k u v d) : Lst E k v u d := by
  refine ⟨?_, h.2.1, fun j c hj hw => h.2.2 j c hj (hw.rev hn)⟩
  rcases h.1 with h | ⟨j, hj, hw⟩
  · exact .inl h
  · exact .inr ⟨j, hj, hw.rev hn⟩
theorem Dst.swap (hn : Net n E) {u v : Nat} {d : Int} (h : Dst E u v d) : Dst E v u d := by
  refine ⟨?_, h.2.1, fun j c hw => h.2.2 j c (hw.rev hn)⟩
  rcases h.1 with h | ⟨j, hw⟩
  · exact .inl h
  · exact .inr ⟨j, hw.rev hn⟩
theorem Dst.self (hn : Net n E) {u : Nat} {d : Int} (h : Dst E u u d) : d = 0 := by
  have h1 := h.2.2 0 0 (Wk.nil u)
  rcases h.1 with h | ⟨j, hw⟩
  · omega
  · have := hw.pos hn; omega
theorem Lst.self (hn : Net n E) {k u : Nat} {d : Int} (h : Lst E k u u d) : d = 0 := by
  have h1 := h.2.2 0 0 (Nat.zero_le _) (Wk.nil u)
  rcases h.1 with h | ⟨j, _, hw⟩
  · omega
  · have := hw.pos hn; omega
theorem Dst.nonneg (hn : Net n E) {u v : Nat} {d : Int} (h : Dst E u v d) : 0 ≤ d := by
  rcases h.1 with h | ⟨j, hw⟩
  · omega
  · have := hw.pos hn; omega
theorem Lst.nonneg (hn : Net n E) {k u v : Nat} {d : Int} (h : Lst E k u v d) : 0 ≤ d := by
  rcases h.1 with h | ⟨j, _, hw⟩
  · omega
  · have := hw.pos hn; omega
theorem Dst.apart (hn : Net n E) {u v : Nat} {d : Int} (h : Dst E u v d) (huv : u ≠ v) : 1 ≤ d := by
  rcases h.1 with h | ⟨j, hw⟩
  · omega
  · have := hw.pos hn
    rcases Nat.eq_zero_or_pos j with rfl | hj
    · exact absurd hw.zero.1 huv
    · omega
theorem Dst.tri {u w v : Nat} {a b c : Int} (h : Dst E u v a) (g : Dst E u w b) (f : Dst E w v c) (hb : 0 ≤ b) (hc : 0 ≤ c) : a ≤ b + c := by
  rcases g.1 with rfl | ⟨j, hw⟩
  · have := h.2.1; omega
  · rcases f.1 with rfl | ⟨i, hv⟩
    · have := h.2.1; omega
    · exact h.2.2 _ _ (hw.app hv)

/-- Bellman's rounds: what u knows of v behind k rounds. -/
def base (u v : Nat) : Int := if u = v then 0 else 1000
def bstep (E : List Edge) (f : Nat → Int) (u : Nat) (b : Int) : Int := E.foldl (fun b e => if e.1 = u then min b (e.2.2 + f e.2.1) else b) b
def bell (E : List Edge) : Nat → Nat → Nat → Int
  | 0, u, v => base u v
  | k + 1, u, v => bstep E (fun w => bell E k w v) u (base u v)
theorem bstep_cons {e : Edge} {f : Nat → Int} {u : Nat} {b : Int} : bstep (e :: E) f u b = bstep E f u (if e.1 = u then min b (e.2.2 + f e.2.1) else b) := rfl
theorem bstep_spec (f : Nat → Int) (u : Nat) : ∀ (E : List Edge) (b : Int), bstep E f u b ≤ b ∧ (∀ w c, (u, w, c) ∈ E → bstep E f u b ≤ c + f w) ∧ (bstep E f u b = b ∨ ∃ w c, (u, w, c) ∈ E ∧ bstep E f u b = c + f w)
  | [], b => ⟨Int.le_refl _, fun _ _ h => absurd h List.not_mem_nil, .inl rfl⟩
  | (x, y, z) :: E, b => by
    obtain ⟨h1, h2, h3⟩ := bstep_spec f u E (if x = u then min b (z + f y) else b)
    rw [bstep_cons]
    simp only
    generalize bstep E f u (if x = u then min b (z + f y) else b) = r at h1 h2 h3 ⊢
    by_cases hx : x = u
    · rw [if_pos hx] at h1 h3
      subst hx
      refine ⟨by omega, fun w c hm => ?_, ?_⟩
      · rcases List.mem_cons.1 hm with he | hm
        · simp only [Prod.mk.injEq, true_and] at he; rw [he.1, he.2]; omega
        · exact h2 w c hm
      · rcases h3 with h3 | ⟨w, c, hm, h3⟩
        · by_cases hl : b ≤ z + f y
          · left; omega
          · right; exact ⟨y, z, List.mem_cons_self .., by omega⟩
        · exact .inr ⟨w, c, List.mem_cons_of_mem _ hm, h3⟩
    · rw [if_neg hx] at h1 h3
      refine ⟨h1, fun w c hm => ?_, ?_⟩
      · rcases List.mem_cons.1 hm with he | hm
        · simp only [Prod.mk.injEq] at he; exact absurd he.1.symm hx
        · exact h2 w c hm
      · rcases h3 with h3 | ⟨w, c, hm, h3⟩
        · exact .inl h3
        · exact .inr ⟨w, c, List.mem_cons_of_mem _ hm, h3⟩
theorem bell_lst (hn : Net n E) : ∀ (k u v : Nat), Lst E k u v (bell E k u v)
  | 0, u, v => by
    show Lst E 0 u v (base u v)
    unfold base
    by_cases h : u = v
    · rw [if_pos h]; subst h
      exact ⟨.inr ⟨0, Nat.le_refl _, Wk.nil u⟩, by omega, fun j c _ hw => by have := hw.pos hn; omega⟩
    · rw [if_neg h]
      refine ⟨.inl rfl, Int.le_refl _, fun j c hj hw => ?_⟩
      obtain rfl : j = 0 := by omega
      exact absurd hw.zero.1 h
  | k + 1, u, v => by
    show Lst E (k + 1) u v (bstep E (fun w => bell E k w v) u (base u v))
    obtain ⟨h1, h2, h3⟩ := bstep_spec (fun w => bell E k w v) u E (base u v)
    generalize bstep E (fun w => bell E k w v) u (base u v) = r at h1 h2 h3
    have hb : base u v ≤ 1000 := by unfold base; split <;> omega
    refine ⟨?_, by omega, fun j c hj hw => ?_⟩
    · rcases h3 with h3 | ⟨w, c, hm, h3⟩
      · unfold base at h3
        split at h3
        · next h => subst h; rw [h3]; exact .inr ⟨0, Nat.zero_le _, Wk.nil u⟩
        · exact .inl h3
      · rcases (bell_lst hn k w v).1 with h | ⟨j, hj, hw⟩
        · have := hn.dom _ _ _ hm; rw [h] at h3; left; omega
        · exact .inr ⟨j + 1, by omega, h3 ▸ Wk.cons hm hw⟩
    · cases hw with
      | nil => unfold base at h1; rw [if_pos rfl] at h1; exact h1
      | @cons i _ w _ c d he hw =>
        have g1 := h2 w c he
        have g2 := (bell_lst hn k w v).2.2 i d (by omega) hw
        omega
def far (E : List Edge) (u v : Nat) : Int := bell E 8 u v
theorem far_dst (hn : Net n E) (h8 : n ≤ 8) {u v : Nat} (hv : v < n) : Dst E u v (far E u v) := (bell_lst hn 8 u v).dst hn hv (by omega)
theorem far_lst (hn : Net n E) {u v : Nat} : Lst E 8 u v (far E u v) := bell_lst hn 8 u v
theorem far_le (hn : Net n E) {u v : Nat} : far E u v ≤ 1000 := (far_lst hn).2.1
theorem far_nonneg (hn : Net n E) {u v : Nat} : 0 ≤ far E u v := (far_lst hn).nonneg hn
theorem far_self (hn : Net n E) {u : Nat} : far E u u = 0 := (far_lst hn).self hn
theorem far_swap (hn : Net n E) {u v : Nat} : far E u v = far E v u := (far_lst hn).unique ((far_lst hn).swap hn)
theorem far_apart (hn : Net n E) (h8 : n ≤ 8) {u v : Nat} (hv : v < n) (h : u ≠ v) : 1 ≤ far E u v := (far_dst hn h8 hv).apart hn h
theorem far_tri (hn : Net n E) (h8 : n ≤ 8) {u w v : Nat} (hw : w < n) (hv : v < n) : far E u v ≤ far E u w + far E w v :=
  (far_dst hn h8 hv).tri (far_dst hn h8 hw) (far_dst hn h8 hv) (far_nonneg hn) (far_nonneg hn)
theorem far_edge (hn : Net n E) (h8 : n ≤ 8) {u w v : Nat} {c : Int} (hv : v < n) (he : (u, w, c) ∈ E) : far E u v ≤ c + far E w v := by
  rcases (far_dst hn h8 hv : Dst E w v _).1 with h | ⟨j, hw⟩
  · have := hn.dom _ _ _ he
    have := far_le hn (u := u) (v := v)
    omega
  · exact (far_dst hn h8 hv).2.2 _ _ (Wk.cons he hw)
/-- The first edge of a least walk. -/
theorem far_first (hn : Net n E) (h8 : n ≤ 8) {u v : Nat} (hv : v < n) (h : u ≠ v) (hf : far E u v < 1000) : ∃ w c, (u, w, c) ∈ E ∧ c + far E w v = far E u v := by
  rcases (far_dst hn h8 hv : Dst E u v _).1 with h' | ⟨j, hw⟩
  · omega
  · generalize hg : far E u v = d at hw hf
    cases hw with
    | nil => exact absurd rfl h
    | @cons k _ w _ c d he hw =>
      have h1 := far_edge hn h8 hv he
      have h2 := (far_dst hn h8 hv : Dst E w v _).2.2 _ _ hw
      exact ⟨w, c, he, by omega⟩

/-- The first hop, said outright. -/
def IsHop (n : Nat) (E : List Edge) (u v : Nat) (h : Int) : Prop :=
  (u = v ∨ far E u v = 1000) ∧ h = -1 ∨
  (u ≠ v ∧ far E u v < 1000) ∧ ∃ w : Nat, h = (w : Int) ∧ w < n ∧ (∃ c, (u, w, c) ∈ E ∧ c + far E w v = far E u v) ∧ ∀ w' c', (u, w', c') ∈ E → c' + far E w' v = far E u v → w ≤ w'
theorem IsHop.unique {u v : Nat} {a b : Int} (h : IsHop n E u v a) (g : IsHop n E u v b) : a = b := by
  rcases h with ⟨h1, h2⟩ | ⟨⟨h1, h1'⟩, w, h2, h3, ⟨c, h4, h4'⟩, h5⟩
  · rcases g with ⟨g1, g2⟩ | ⟨⟨g1, g1'⟩, _⟩
    · omega
    · rcases h1 with h1 | h1
      · exact absurd h1 g1
      · omega
  · rcases g with ⟨g1, g2⟩ | ⟨⟨g1, g1'⟩, w', g2, g3, ⟨c', g4, g4'⟩, g5⟩
    · rcases g1 with g1 | g1
      · exact absurd g1 h1
      · omega
    · have := h5 _ _ g4 g4'
      have := g5 _ _ h4 h4'
      omega
end Go.Proofs.YtnmddgjgmdegoaaDoor
