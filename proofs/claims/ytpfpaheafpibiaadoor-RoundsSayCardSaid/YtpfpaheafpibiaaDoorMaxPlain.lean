/- Max-min shares: the rounds, and what holds in the end; plain functions. -/
import Derived.Test.YtpfpaheafpibiaaDoorRows
import Derived.Test.YtpfpaheafpibiaaDoorTurns
namespace Go.Proofs.YtpfpaheafpibiaaDoor
set_option linter.unusedVariables false

/-- What links have left, which ways are open, what each way has. -/
structure MS where
  L : Nat → Int
  op : Nat → Bool
  out : Nat → Nat
def need (n : Nat) (W : Nat → List Nat) (op : Nat → Bool) (x : Nat) : Nat := psum (fun i => if op i = true then (W i).count x else 0) n
def tight (L : Nat → Int) (N : Nat → Nat) (w : List Nat) : Bool := w.any fun x => decide (L x < (N x : Int))
def anyT (n : Nat) (W : Nat → List Nat) (s : MS) (k : Nat) : Bool := (List.range k).any fun i => s.op i && tight s.L (need n W s.op) (W i)
def closed (n : Nat) (W : Nat → List Nat) (s : MS) (i : Nat) : Bool := s.op i && !tight s.L (need n W s.op) (W i)
def mmStep (n : Nat) (W : Nat → List Nat) (s : MS) : MS :=
  if anyT n W s n = true then ⟨s.L, closed n W s, s.out⟩ else ⟨fun x => s.L x - (need n W s.op x : Int), s.op, fun i => if s.op i = true then s.out i + 1 else s.out i⟩
def anyOpen (n : Nat) (s : MS) : Bool := (List.range n).any s.op
def mmRun (n : Nat) (W : Nat → List Nat) : Nat → MS → MS
  | 0, s => s
  | f + 1, s => if anyOpen n s = true then mmRun n W f (mmStep n W s) else s
def mmStart (room : Nat → Int) : MS := ⟨room, fun _ => true, fun _ => 0⟩
def mmShare (n : Nat) (W : Nat → List Nat) (room : Nat → Int) : MS := mmRun n W 1006 (mmStart room)

theorem mmRun_stop {n : Nat} {W : Nat → List Nat} {s : MS} (h : anyOpen n s = false) : ∀ f, mmRun n W f s = s
  | 0 => rfl
  | f + 1 => by rw [mmRun, h]; rfl
theorem mmRun_go {n : Nat} {W : Nat → List Nat} {s : MS} {f : Nat} (h : anyOpen n s = true) : mmRun n W (f + 1) s = mmRun n W f (mmStep n W s) := by rw [mmRun, if_pos h]

theorem psum_pos {f : Nat → Nat} : ∀ {n : Nat}, 0 < psum f n ↔ ∃ i, i < n ∧ 0 < f i
  | 0 => by simp [psum]
  | n + 1 => by
    rw [psum]
    constructor
    · intro h
      rcases Nat.eq_zero_or_pos (f n) with h0 | h0
      · obtain ⟨i, hi, e⟩ := psum_pos.1 (show 0 < psum f n by omega)
        exact ⟨i, by omega, e⟩
      · exact ⟨n, by omega, h0⟩
    · rintro ⟨i, hi, e⟩
      rcases Nat.lt_or_ge i n with h1 | h1
      · have := psum_pos.2 ⟨i, h1, e⟩; omega
      · rw [show i = n by omega] at e; omega
theorem psum_ge {f : Nat → Nat} {i : Nat} : ∀ {n : Nat}, i < n → f i ≤ psum f n
  | 0, h => by omega
  | n + 1, h => by
    rw [psum]
    rcases Nat.lt_or_ge i n with h1 | h1
    · have := psum_ge (f := f) h1; omega
    · rw [show i = n by omega]; omega
theorem psum_le_mono {f g : Nat → Nat} : ∀ {n : Nat}, (∀ i, i < n → f i ≤ g i) → psum f n ≤ psum g n
  | 0, _ => Nat.le_refl _
  | n + 1, h => by
    have h1 := psum_le_mono (f := f) (g := g) (n := n) (fun i hi => h i (by omega))
    have h2 := h n (by omega)
    simp only [psum]; omega
theorem psum_lt_mono {f g : Nat → Nat} {j : Nat} : ∀ {n : Nat}, (∀ i, i < n → f i ≤ g i) → j < n → f j < g j → psum f n < psum g n
  | 0, _, hj, _ => by omega
  | n + 1, h, hj, hlt => by
    simp only [psum]
    have h1 := psum_le_mono (f := f) (g := g) (n := n) (fun i hi => h i (by omega))
    have h2 := h n (by omega)
    rcases Nat.lt_or_ge j n with h3 | h3
    · have := psum_lt_mono (f := f) (g := g) (n := n) (fun i hi => h i (by omega)) h3 hlt; omega
    · rw [show j = n by omega] at hlt; omega

structure WOk (n m : Nat) (W : Nat → List Nat) : Prop where
  lt : ∀ i, i < n → ∀ x ∈ W i, x < m
  nd : ∀ i, i < n → (W i).Nodup
  ne : ∀ i, i < n → W i ≠ []

def many (n : Nat) (W : Nat → List Nat) (x : Nat) : Nat := psum (fun i => (W i).count x) n
theorem need_le (n : Nat) (W : Nat → List Nat) (op : Nat → Bool) (x : Nat) : need n W op x ≤ many n W x :=
  psum_le_mono fun i _ => by split <;> omega
theorem need_pos {n : Nat} {W : Nat → List Nat} {op : Nat → Bool} {x : Nat} : 0 < need n W op x ↔ ∃ i, i < n ∧ op i = true ∧ x ∈ W i := by
  unfold need
  rw [psum_pos]
  constructor
  · rintro ⟨i, hi, h⟩
    by_cases ho : op i = true
    · rw [if_pos ho] at h; exact ⟨i, hi, ho, List.count_pos_iff.1 h⟩
    · rw [if_neg ho] at h; omega
  · rintro ⟨i, hi, ho, h⟩
    exact ⟨i, hi, by rw [if_pos ho]; exact List.count_pos_iff.2 h⟩
theorem many_le {n m : Nat} {W : Nat → List Nat} (h : WOk n m W) (x : Nat) : many n W x ≤ n := by
  have key : ∀ k, k ≤ n → psum (fun i => (W i).count x) k ≤ k := fun k => by
    induction k with
    | zero => intro _; simp [psum]
    | succ k ih =>
      intro hk
      have h1 := ih (by omega)
      have h2 := (h.nd k (by omega)).count (a := x)
      simp only [psum]
      rw [h2]
      split <;> omega
  exact key n (Nat.le_refl _)
theorem tight_iff {L : Nat → Int} {N : Nat → Nat} {w : List Nat} : tight L N w = true ↔ ∃ x ∈ w, L x < (N x : Int) := by
  simp [tight]
theorem anyT_iff {n : Nat} {W : Nat → List Nat} {s : MS} {k : Nat} : anyT n W s k = true ↔ ∃ i, i < k ∧ s.op i = true ∧ tight s.L (need n W s.op) (W i) = true := by
  simp [anyT]
theorem anyOpen_iff {n : Nat} {s : MS} : anyOpen n s = true ↔ ∃ i, i < n ∧ s.op i = true := by
  simp [anyOpen]
theorem anyT_succ (n : Nat) (W : Nat → List Nat) (s : MS) (k : Nat) : anyT n W s (k + 1) = (anyT n W s k || (s.op k && tight s.L (need n W s.op) (W k))) := by
  unfold anyT
  rw [List.range_succ, List.any_append]
  simp

structure MInv (n m : Nat) (W : Nat → List Nat) (room : Nat → Int) (s : MS) (t : Nat) : Prop where
  left : ∀ x, x < m → s.L x = room x - ((psum (fun i => s.out i * (W i).count x) n : Nat) : Int)
  nn : ∀ x, x < m → 0 ≤ s.L x
  up : ∀ i, i < n → s.op i = true → s.out i = t
  dn : ∀ i, i < n → s.out i ≤ t
  neck : ∀ i, i < n → s.op i = false → ∃ x, x ∈ W i ∧ (∀ j, j < n → s.op j = true → ¬ x ∈ W j) ∧ s.L x < (many n W x : Int) ∧ ∀ j, j < n → x ∈ W j → s.out j ≤ s.out i
theorem MInv.start (n m : Nat) (W : Nat → List Nat) (room : Nat → Int) (h0 : ∀ x, x < m → 0 ≤ room x) : MInv n m W room (mmStart room) 0 := by
  refine ⟨fun x _ => ?_, h0, fun _ _ _ => rfl, fun _ _ => Nat.le_refl _, fun i _ h => by cases h⟩
  have : ∀ k, psum (fun i => (mmStart room).out i * (W i).count x) k = 0 := fun k => by
    induction k with
    | zero => rfl
    | succ k ih => rw [psum, ih]; simp [mmStart]
  rw [this]; simp [mmStart]

def opens (n : Nat) (s : MS) : Nat := psum (fun i => if s.op i = true then 1 else 0) n
theorem opens_le (n : Nat) (s : MS) : opens n s ≤ n := by
  have := psum_le (fun i => if s.op i = true then 1 else 0) 1 (fun i => by split <;> omega) n
  unfold opens; omega
def pot (n : Nat) (s : MS) (t : Nat) : Nat := (1001 - t) + opens n s

theorem MInv.step {n m : Nat} {W : Nat → List Nat} {room : Nat → Int} {s : MS} {t : Nat} (hw : WOk n m W) (hr : ∀ x, x < m → room x ≤ 1000) (h : MInv n m W room s t) (ho : anyOpen n s = true) :
    ∃ t', MInv n m W room (mmStep n W s) t' ∧ pot n (mmStep n W s) t' < pot n s t := by
  by_cases ha : anyT n W s n = true
  · -- some are closed
    rw [mmStep, if_pos ha]
    refine ⟨t, ⟨h.left, h.nn, ?_, h.dn, ?_⟩, ?_⟩
    · intro i hi hop
      have : s.op i = true := by
        have h1 : closed n W s i = true := hop
        unfold closed at h1
        cases hs : s.op i with
        | true => rfl
        | false => rw [hs] at h1; cases h1
      exact h.up i hi this
    · intro i hi hop
      have hop' : closed n W s i = false := hop
      by_cases hs : s.op i = true
      · -- it closes now
        have ht : tight s.L (need n W s.op) (W i) = true := by
          unfold closed at hop'
          rw [hs] at hop'
          cases hh : tight s.L (need n W s.op) (W i) with
          | true => rfl
          | false => rw [hh] at hop'; cases hop'
        obtain ⟨x, hx, hlt⟩ := tight_iff.1 ht
        refine ⟨x, hx, ?_, ?_, ?_⟩
        · intro j hj hopj hxj
          have h1 : closed n W s j = true := hopj
          unfold closed at h1
          have h2 : tight s.L (need n W s.op) (W j) = true := tight_iff.2 ⟨x, hxj, hlt⟩
          rw [h2] at h1
          simp at h1
        · have := need_le n W s.op x
          show s.L x < _
          omega
        · intro j hj _
          show s.out j ≤ s.out i
          rw [h.up i hi hs]; exact h.dn j hj
      · obtain ⟨x, hx, h1, h2, h3⟩ := h.neck i hi (by simpa using hs)
        refine ⟨x, hx, ?_, h2, h3⟩
        intro j hj hopj
        have h4 : closed n W s j = true := hopj
        unfold closed at h4
        exact h1 j hj (by cases hs : s.op j with | true => rfl | false => rw [hs] at h4; cases h4)
    · obtain ⟨i, hi, h1, h2⟩ := anyT_iff.1 ha
      unfold pot opens
      have h3 := psum_lt_mono (f := fun i => if closed n W s i = true then 1 else 0) (g := fun i => if s.op i = true then 1 else 0) (j := i) (n := n) (fun k hk => by
        by_cases hc : closed n W s k = true
        · rw [if_pos hc, if_pos (by unfold closed at hc; cases hs : s.op k with | true => rfl | false => rw [hs] at hc; cases hc)]; exact Nat.le_refl _
        · rw [if_neg hc]; exact Nat.zero_le _) hi (by
        rw [if_pos h1, if_neg (by unfold closed; rw [h1, h2]; simp)]; omega)
      show 1001 - t + psum (fun i => if closed n W s i = true then 1 else 0) n < _
      omega
  · -- each open one gets one more
    rw [mmStep, if_neg ha]
    have hnt : ∀ i, i < n → s.op i = true → ∀ x ∈ W i, (need n W s.op x : Int) ≤ s.L x := fun i hi hop x hx => by
      rcases Int.lt_or_le (s.L x) (need n W s.op x : Int) with h1 | h1
      · exact absurd (anyT_iff.2 ⟨i, hi, hop, tight_iff.2 ⟨x, hx, h1⟩⟩) ha
      · exact h1
    obtain ⟨i0, hi0, hop0⟩ := anyOpen_iff.1 ho
    obtain ⟨x0, hx0⟩ : ∃ x, x ∈ W i0 := by
      cases hw0 : W i0 with
      | nil => exact absurd hw0 (hw.ne i0 hi0)
      | cons y r => exact ⟨y, by simp⟩
    have hx0m := hw.lt i0 hi0 x0 hx0
    have ht999 : t < 1000 := by
      have h1 := hnt i0 hi0 hop0 x0 hx0
      have h2 : 0 < need n W s.op x0 := need_pos.2 ⟨i0, hi0, hop0, hx0⟩
      have h3 := h.left x0 hx0m
      have h4 := psum_ge (f := fun i => s.out i * (W i).count x0) hi0
      have h5 : 0 < (W i0).count x0 := List.count_pos_iff.2 hx0
      have h6 := hr x0 hx0m
      have h7 : s.out i0 * 1 ≤ s.out i0 * (W i0).count x0 := Nat.mul_le_mul_left _ h5
      have h8 := h.up i0 hi0 hop0
      omega
    refine ⟨t + 1, ⟨?_, ?_, ?_, ?_, ?_⟩, ?_⟩
    · intro x hx
      show s.L x - (need n W s.op x : Int) = _
      rw [h.left x hx]
      have e : psum (fun i => (if s.op i = true then s.out i + 1 else s.out i) * (W i).count x) n = psum (fun i => s.out i * (W i).count x) n + need n W s.op x := by
        unfold need
        rw [← psum_add]
        refine psum_congr fun i _ => ?_
        by_cases hs : s.op i = true
        · rw [if_pos hs, if_pos hs, Nat.add_mul, Nat.one_mul]
        · rw [if_neg hs, if_neg hs, Nat.add_zero]
      show _ = room x - ((psum (fun i => (if s.op i = true then s.out i + 1 else s.out i) * (W i).count x) n : Nat) : Int)
      rw [e]; omega
    · intro x hx
      show 0 ≤ s.L x - (need n W s.op x : Int)
      rcases Nat.eq_zero_or_pos (need n W s.op x) with h0 | h0
      · have := h.nn x hx; omega
      · obtain ⟨i, hi, hop, hxi⟩ := need_pos.1 h0
        have := hnt i hi hop x hxi; omega
    · intro i hi hop
      have hop' : s.op i = true := hop
      show (if s.op i = true then s.out i + 1 else s.out i) = t + 1
      rw [if_pos hop', h.up i hi hop']
    · intro i hi
      show (if s.op i = true then s.out i + 1 else s.out i) ≤ t + 1
      have := h.dn i hi
      split <;> omega
    · intro i hi hop
      have hop' : s.op i = false := hop
      obtain ⟨x, hx, h1, h2, h3⟩ := h.neck i hi hop'
      have hn0 : need n W s.op x = 0 := by
        rcases Nat.eq_zero_or_pos (need n W s.op x) with h0 | h0
        · exact h0
        · obtain ⟨j, hj, hopj, hxj⟩ := need_pos.1 h0
          exact absurd hxj (h1 j hj hopj)
      refine ⟨x, hx, h1, ?_, ?_⟩
      · show s.L x - (need n W s.op x : Int) < _
        rw [hn0]; omega
      · intro j hj hxj
        show (if s.op j = true then s.out j + 1 else s.out j) ≤ (if s.op i = true then s.out i + 1 else s.out i)
        have hsj : ¬ s.op j = true := fun e => h1 j hj e hxj
        rw [if_neg hsj, if_neg (by rw [hop']; simp)]
        exact h3 j hj hxj
    · unfold pot opens
      show 1001 - (t + 1) + psum (fun i => if s.op i = true then 1 else 0) n < _
      omega

theorem mmRun_inv {n m : Nat} {W : Nat → List Nat} {room : Nat → Int} (hw : WOk n m W) (hr : ∀ x, x < m → room x ≤ 1000) : ∀ (f : Nat) (s : MS) (t : Nat), MInv n m W room s t → pot n s t ≤ f →
    ∃ t', MInv n m W room (mmRun n W f s) t' ∧ anyOpen n (mmRun n W f s) = false
  | 0, s, t, h, hp => by
    refine ⟨t, h, ?_⟩
    cases ho : anyOpen n s with
    | false => exact ho
    | true =>
      obtain ⟨t', _, hlt⟩ := h.step hw hr ho
      omega
  | f + 1, s, t, h, hp => by
    cases ho : anyOpen n s with
    | false => rw [mmRun_stop ho]; exact ⟨t, h, ho⟩
    | true =>
      rw [mmRun_go ho]
      obtain ⟨t', h', hlt⟩ := h.step hw hr ho
      exact mmRun_inv hw hr f _ t' h' (by omega)

/-- The end: no link has too much, each way has a link that stops it. -/
structure MEnd (n m : Nat) (W : Nat → List Nat) (room : Nat → Int) (s : MS) : Prop where
  left : ∀ x, x < m → s.L x = room x - ((psum (fun i => s.out i * (W i).count x) n : Nat) : Int)
  nn : ∀ x, x < m → 0 ≤ s.L x
  neck : ∀ i, i < n → ∃ x, x ∈ W i ∧ s.L x < (many n W x : Int) ∧ ∀ j, j < n → x ∈ W j → s.out j ≤ s.out i
theorem mmShare_end {n m : Nat} {W : Nat → List Nat} {room : Nat → Int} (hn : n ≤ 5) (hw : WOk n m W) (h0 : ∀ x, x < m → 0 ≤ room x ∧ room x ≤ 1000) : MEnd n m W room (mmShare n W room) := by
  obtain ⟨t, h, ho⟩ := mmRun_inv hw (fun x hx => (h0 x hx).2) 1006 (mmStart room) 0 (MInv.start n m W room fun x hx => (h0 x hx).1) (by have := opens_le n (mmStart room); unfold pot; omega)
  refine ⟨h.left, h.nn, fun i hi => ?_⟩
  have hop : (mmRun n W 1006 (mmStart room)).op i = false := by
    cases hs : (mmRun n W 1006 (mmStart room)).op i with
    | false => rfl
    | true => rw [anyOpen_iff.2 ⟨i, hi, hs⟩] at ho; cases ho
  obtain ⟨x, hx, _, h2, h3⟩ := h.neck i hi hop
  exact ⟨x, hx, h2, h3⟩
theorem mmShare_out_le {n m : Nat} {W : Nat → List Nat} {room : Nat → Int} (hn : n ≤ 5) (hw : WOk n m W) (h0 : ∀ x, x < m → 0 ≤ room x ∧ room x ≤ 1000) {i : Nat} (hi : i < n) : (mmShare n W room).out i ≤ 1000 := by
  have h := mmShare_end hn hw h0
  obtain ⟨x, hx⟩ : ∃ x, x ∈ W i := by
    cases hw0 : W i with
    | nil => exact absurd hw0 (hw.ne i hi)
    | cons y r => exact ⟨y, by simp⟩
  have hxm := hw.lt i hi x hx
  have h1 := h.left x hxm
  have h2 := h.nn x hxm
  have h3 := (h0 x hxm).2
  have h4 := psum_ge (f := fun i => (mmShare n W room).out i * (W i).count x) hi
  have h5 : 0 < (W i).count x := List.count_pos_iff.2 hx
  have h7 : (mmShare n W room).out i * 1 ≤ (mmShare n W room).out i * (W i).count x := Nat.mul_le_mul_left _ h5
  omega

/-! ### who goes the same way; the order turned -/
theorem tight_congr {L : Nat → Int} {N : Nat → Nat} {v w : List Nat} (h : ∀ x, x ∈ v ↔ x ∈ w) : tight L N v = tight L N w := by
  rw [Bool.eq_iff_iff, tight_iff, tight_iff]
  constructor
  · rintro ⟨x, hx, e⟩; exact ⟨x, (h x).1 hx, e⟩
  · rintro ⟨x, hx, e⟩; exact ⟨x, (h x).2 hx, e⟩
theorem mmRun_same {n : Nat} {W : Nat → List Nat} {a b : Nat} (hab : ∀ x, x ∈ W a ↔ x ∈ W b) : ∀ (f : Nat) (s : MS), s.op a = s.op b → s.out a = s.out b → (mmRun n W f s).out a = (mmRun n W f s).out b
  | 0, s, h1, h2 => h2
  | f + 1, s, h1, h2 => by
    rw [mmRun]
    split
    · unfold mmStep
      split
      · exact mmRun_same hab f _ (by show closed n W s a = closed n W s b; unfold closed; rw [h1, tight_congr hab]) h2
      · refine mmRun_same hab f _ h1 ?_
        show (if s.op a = true then s.out a + 1 else s.out a) = (if s.op b = true then s.out b + 1 else s.out b)
        rw [h1, h2]
    · exact h2
theorem mmShare_same {n : Nat} {W : Nat → List Nat} {room : Nat → Int} {a b : Nat} (hab : ∀ x, x ∈ W a ↔ x ∈ W b) : (mmShare n W room).out a = (mmShare n W room).out b := mmRun_same hab _ _ rfl rfl

theorem psum_front (f : Nat → Nat) : ∀ n, psum f (n + 1) = f 0 + psum (fun i => f (i + 1)) n
  | 0 => by simp [psum]
  | n + 1 => by rw [psum, psum_front f n, psum]; omega
theorem psum_rev : ∀ (n : Nat) (f : Nat → Nat), psum (fun i => f (n - 1 - i)) n = psum f n
  | 0, f => rfl
  | n + 1, f => by
    rw [psum_front, psum]
    have e : psum (fun i => f (n + 1 - 1 - (i + 1))) n = psum (fun i => f (n - 1 - i)) n := psum_congr fun i hi => by congr 1; omega
    rw [e, psum_rev n f]
    simp; omega
/-- The state with the ways in the other order. -/
structure Rev (n : Nat) (s s' : MS) : Prop where
  L : s'.L = s.L
  op : ∀ i, i < n → s'.op i = s.op (n - 1 - i)
  out : ∀ i, i < n → s'.out i = s.out (n - 1 - i)
theorem Rev.need {n : Nat} {W W' : Nat → List Nat} {s s' : MS} (h : Rev n s s') (hW : ∀ i, i < n → W' i = W (n - 1 - i)) : Go.Proofs.YtpfpaheafpibiaaDoor.need n W' s'.op = Go.Proofs.YtpfpaheafpibiaaDoor.need n W s.op := by
  funext x
  unfold Go.Proofs.YtpfpaheafpibiaaDoor.need
  rw [← psum_rev n (fun i => if s.op i = true then (W i).count x else 0)]
  exact psum_congr fun i hi => by rw [h.op i hi, hW i hi]
theorem Rev.anyT {n : Nat} {W W' : Nat → List Nat} {s s' : MS} (h : Rev n s s') (hW : ∀ i, i < n → W' i = W (n - 1 - i)) : Go.Proofs.YtpfpaheafpibiaaDoor.anyT n W' s' n = Go.Proofs.YtpfpaheafpibiaaDoor.anyT n W s n := by
  rw [Bool.eq_iff_iff, anyT_iff, anyT_iff, h.need hW, h.L]
  constructor
  · rintro ⟨i, hi, h1, h2⟩
    exact ⟨n - 1 - i, by omega, by rw [← h.op i hi]; exact h1, by rw [← hW i hi]; exact h2⟩
  · rintro ⟨i, hi, h1, h2⟩
    have e : n - 1 - (n - 1 - i) = i := by omega
    exact ⟨n - 1 - i, by omega, by rw [h.op _ (by omega), e]; exact h1, by rw [hW _ (by omega), e]; exact h2⟩
theorem Rev.anyOpen {n : Nat} {s s' : MS} (h : Rev n s s') : Go.Proofs.YtpfpaheafpibiaaDoor.anyOpen n s' = Go.Proofs.YtpfpaheafpibiaaDoor.anyOpen n s := by
  rw [Bool.eq_iff_iff, anyOpen_iff, anyOpen_iff]
  constructor
  · rintro ⟨i, hi, h1⟩; exact ⟨n - 1 - i, by omega, by rw [← h.op i hi]; exact h1⟩
  · rintro ⟨i, hi, h1⟩
    exact ⟨n - 1 - i, by omega, by rw [h.op _ (by omega), show n - 1 - (n - 1 - i) = i by omega]; exact h1⟩
theorem Rev.run {n : Nat} {W W' : Nat → List Nat} (hW : ∀ i, i < n → W' i = W (n - 1 - i)) : ∀ (f : Nat) (s s' : MS), Rev n s s' → Rev n (mmRun n W f s) (mmRun n W' f s')
  | 0, s, s', h => h
  | f + 1, s, s', h => by
    rw [mmRun, mmRun, h.anyOpen]
    split
    · refine Rev.run hW f _ _ ?_
      unfold mmStep
      rw [h.anyT hW]
      split
      · refine ⟨h.L, fun i hi => ?_, h.out⟩
        show closed n W' s' i = closed n W s (n - 1 - i)
        unfold closed
        rw [h.op i hi, h.L, h.need hW, hW i hi]
      · refine ⟨?_, h.op, fun i hi => ?_⟩
        · show (fun x => s'.L x - (Go.Proofs.YtpfpaheafpibiaaDoor.need n W' s'.op x : Int)) = _
          rw [h.L, h.need hW]
        · show (if s'.op i = true then s'.out i + 1 else s'.out i) = _
          rw [h.op i hi, h.out i hi]
    · exact h
theorem mmShare_rev {n : Nat} {W W' : Nat → List Nat} {room : Nat → Int} (hW : ∀ i, i < n → W' i = W (n - 1 - i)) {i : Nat} (hi : i < n) : (mmShare n W' room).out i = (mmShare n W room).out (n - 1 - i) :=
  (Rev.run hW 1006 (mmStart room) (mmStart room) ⟨rfl, fun _ _ => rfl, fun _ _ => rfl⟩).out i hi

/-! ### arrays by functions -/
def arr {α : Type} (f : Nat → α) (n : Nat) : List α := (List.range n).map f
theorem arr_len {α : Type} (f : Nat → α) (n : Nat) : (arr f n).length = n := by simp [arr]
theorem arr_get {α : Type} {f : Nat → α} {n i : Nat} (h : i < n) : (arr f n)[i]? = some (f i) := by
  rw [arr, List.getElem?_map, List.getElem?_range h]; rfl
theorem arr_congr {α : Type} {f g : Nat → α} {n : Nat} (h : ∀ i, i < n → f i = g i) : arr f n = arr g n := by
  refine List.ext_getElem? fun i => ?_
  by_cases hi : i < n
  · rw [arr_get hi, arr_get hi, h i hi]
  · rw [List.getElem?_eq_none (by rw [arr_len]; omega), List.getElem?_eq_none (by rw [arr_len]; omega)]
theorem arr_set {α : Type} {f : Nat → α} {n k : Nat} (v : α) : (arr f n).set k v = arr (fun i => if i = k then v else f i) n := by
  refine List.ext_getElem? fun i => ?_
  by_cases hi : i < n
  · rw [arr_get hi]
    by_cases e : i = k
    · subst e; rw [List.getElem?_set_self (by rw [arr_len]; exact hi), if_pos rfl]
    · rw [List.getElem?_set_ne (by omega), arr_get hi, if_neg e]
  · rw [List.getElem?_eq_none (by rw [List.length_set, arr_len]; omega), List.getElem?_eq_none (by rw [arr_len]; omega)]
theorem arr_of {α : Type} (l : List α) (f : Nat → α) (h : ∀ i x, l[i]? = some x → f i = x) : l = arr f l.length := by
  refine List.ext_getElem? fun i => ?_
  by_cases hi : i < l.length
  · rw [arr_get hi, List.getElem?_eq_getElem hi, h i _ (List.getElem?_eq_getElem hi)]
  · rw [List.getElem?_eq_none (by omega), List.getElem?_eq_none (by rw [arr_len]; omega)]
theorem arr_map {α β : Type} (g : α → β) (f : Nat → α) (n : Nat) : (arr f n).map g = arr (fun i => g (f i)) n := by simp [arr]
theorem arr_const {α : Type} (a : α) (n : Nat) : List.replicate n a = arr (fun _ => a) n := by
  refine List.ext_getElem? fun i => ?_
  by_cases hi : i < n
  · rw [arr_get hi, List.getElem?_replicate, if_pos hi]
  · rw [List.getElem?_eq_none (by simp; omega), List.getElem?_eq_none (by rw [arr_len]; omega)]

/-! ### the sums, as they are built -/
def needP (W : Nat → List Nat) (op : Nat → Bool) (k x : Nat) : Nat := psum (fun i => if op i = true then (W i).count x else 0) k
def needJ (W : Nat → List Nat) (op : Nat → Bool) (k j x : Nat) : Nat := needP W op k x + (if op k = true then ((W k).take j).count x else 0)
theorem needJ_zero (W : Nat → List Nat) (op : Nat → Bool) (k x : Nat) : needJ W op k 0 x = needP W op k x := by unfold needJ; simp
theorem needJ_on {W : Nat → List Nat} {op : Nat → Bool} {k j y : Nat} (ho : op k = true) (ht : (W k).take (j + 1) = (W k).take j ++ [y]) (x : Nat) : needJ W op k (j + 1) x = if x = y then needJ W op k j y + 1 else needJ W op k j x := by
  unfold needJ
  rw [if_pos ho, if_pos ho, ht, List.count_append]
  by_cases e : x = y
  · subst e; simp; omega
  · rw [if_neg e, if_pos ho]
    have : ¬ (y == x) = true := by simp; omega
    simp [List.count_cons, this]
theorem needJ_off {W : Nat → List Nat} {op : Nat → Bool} {k : Nat} (ho : op k = false) (j j' x : Nat) : needJ W op k j x = needJ W op k j' x := by
  unfold needJ; rw [if_neg (by rw [ho]; simp), if_neg (by rw [ho]; simp)]
theorem needJ_end {W : Nat → List Nat} {op : Nat → Bool} {k j : Nat} (hj : (W k).length ≤ j) (x : Nat) : needJ W op k j x = needP W op (k + 1) x := by
  unfold needJ needP; rw [psum, List.take_of_length_le hj]
theorem needJ_le {n m : Nat} {W : Nat → List Nat} {op : Nat → Bool} (h : WOk n m W) {k : Nat} (hk : k < n) (j x : Nat) : needJ W op k j x ≤ n := by
  have h1 : needJ W op k j x ≤ needP W op (k + 1) x := by
    unfold needJ needP
    rw [psum]
    split
    · have := (List.take_sublist j (W k)).count_le x; omega
    · omega
  have h2 : needP W op (k + 1) x ≤ psum (fun i => (W i).count x) (k + 1) := psum_le_mono fun i _ => by split <;> omega
  have key : ∀ k, k ≤ n → psum (fun i => (W i).count x) k ≤ k := fun k => by
    induction k with
    | zero => intro _; simp [psum]
    | succ k ih =>
      intro hk
      have h1 := ih (by omega)
      have h2 := (h.nd k (by omega)).count (a := x)
      simp only [psum]
      rw [h2]
      split <;> omega
  have := key (k + 1) (by omega)
  omega
theorem needP_all (n : Nat) (W : Nat → List Nat) (op : Nat → Bool) (x : Nat) : needP W op n x = need n W op x := rfl

theorem nodup_len : ∀ (m : Nat) (l : List Nat), l.Nodup → (∀ x ∈ l, x < m) → l.length ≤ m
  | 0, l, _, h => by
    cases l with
    | nil => simp
    | cons y r => have := h y (by simp); omega
  | m + 1, l, hn, h => by
    by_cases hm : m ∈ l
    · have h1 := nodup_len m (l.erase m) (hn.erase m) (fun x hx => by
        have h2 := (List.Nodup.mem_erase_iff hn).1 hx
        have := h x h2.2
        have := h2.1
        omega)
      have h2 := List.length_erase_of_mem hm
      omega
    · have := nodup_len m l hn (fun x hx => by
        have h1 := h x hx
        have : x ≠ m := fun e => hm (e ▸ hx)
        omega)
      omega
theorem MInv.bd {n m : Nat} {W : Nat → List Nat} {room : Nat → Int} {s : MS} {t : Nat} (h : MInv n m W room s t) (hr : ∀ x, x < m → room x ≤ 1000) {x : Nat} (hx : x < m) : 0 ≤ s.L x ∧ s.L x ≤ 1000 := by
  have h1 := h.left x hx
  have h2 := h.nn x hx
  have h3 := hr x hx
  omega
theorem MInv.out_le {n m : Nat} {W : Nat → List Nat} {room : Nat → Int} {s : MS} {t : Nat} (hw : WOk n m W) (h : MInv n m W room s t) (hr : ∀ x, x < m → room x ≤ 1000) {i : Nat} (hi : i < n) : s.out i ≤ 1000 := by
  obtain ⟨x, hx⟩ : ∃ x, x ∈ W i := by
    cases hw0 : W i with
    | nil => exact absurd hw0 (hw.ne i hi)
    | cons y r => exact ⟨y, by simp⟩
  have hxm := hw.lt i hi x hx
  have h1 := h.left x hxm
  have h2 := h.nn x hxm
  have h3 := hr x hxm
  have h4 := psum_ge (f := fun i => s.out i * (W i).count x) hi
  have h5 : 0 < (W i).count x := List.count_pos_iff.2 hx
  have h7 : s.out i * 1 ≤ s.out i * (W i).count x := Nat.mul_le_mul_left _ h5
  omega

/-! ### what is used, as it is summed up -/
def usedP (W : Nat → List Nat) (out : Nat → Nat) (k x : Nat) : Nat := psum (fun i => out i * (W i).count x) k
def usedJ (W : Nat → List Nat) (out : Nat → Nat) (k j x : Nat) : Nat := usedP W out k x + out k * ((W k).take j).count x
theorem usedJ_zero (W : Nat → List Nat) (out : Nat → Nat) (k x : Nat) : usedJ W out k 0 x = usedP W out k x := by simp [usedJ]
theorem usedJ_step {W : Nat → List Nat} {out : Nat → Nat} {k j y : Nat} (ht : (W k).take (j + 1) = (W k).take j ++ [y]) (x : Nat) : usedJ W out k (j + 1) x = if x = y then usedJ W out k j y + out k else usedJ W out k j x := by
  unfold usedJ
  rw [ht, List.count_append]
  by_cases e : x = y
  · subst e; simp [Nat.mul_add]; omega
  · rw [if_neg e]
    have : ¬ (y == x) = true := by simp; omega
    simp [List.count_cons, this]
theorem usedJ_end {W : Nat → List Nat} {out : Nat → Nat} {k j : Nat} (hj : (W k).length ≤ j) (x : Nat) : usedJ W out k j x = usedP W out (k + 1) x := by
  unfold usedJ usedP; rw [psum, List.take_of_length_le hj]
theorem usedJ_le {n m : Nat} {W : Nat → List Nat} {out : Nat → Nat} (h : WOk n m W) {b : Nat} (ho : ∀ i, i < n → out i ≤ b) {k : Nat} (hk : k < n) (j x : Nat) : usedJ W out k j x ≤ n * b := by
  have h1 : usedJ W out k j x ≤ usedP W out (k + 1) x := by
    unfold usedJ usedP
    rw [psum]
    have := Nat.mul_le_mul_left (out k) ((List.take_sublist j (W k)).count_le x)
    omega
  have key : ∀ k, k ≤ n → usedP W out k x ≤ k * b := fun k => by
    induction k with
    | zero => intro _; simp [usedP, psum]
    | succ k ih =>
      intro hk
      have h1 := ih (by omega)
      have h2 := (h.nd k (by omega)).count (a := x)
      have h3 := ho k (by omega)
      unfold usedP at h1 ⊢
      simp only [psum]
      rw [h2, Nat.add_mul, Nat.one_mul]
      split <;> omega
  have h4 := key (k + 1) (by omega)
  have h5 : (k + 1) * b ≤ n * b := Nat.mul_le_mul_right b (by omega)
  omega
end Go.Proofs.YtpfpaheafpibiaaDoor
