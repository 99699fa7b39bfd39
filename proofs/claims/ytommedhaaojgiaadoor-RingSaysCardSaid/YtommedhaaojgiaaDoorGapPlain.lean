/- The most that others send between two of one: the pairs of places that hold the same, and nothing of it between; plain lists. -/
import Derived.Test.YtommedhaaojgiaaDoorRingPlain
namespace Go.Proofs.YtommedhaaojgiaaDoor
set_option linter.unusedVariables false

/-- Two places of one, with none of it between. -/
structure Adj (l : List Int) (i k : Nat) : Prop where
  lt : i < k
  top : k < l.length
  same : l[i]? = l[k]?
  free : ∀ j, i < j → j < k → l[j]? ≠ l[i]?
/-- m is the most that lies between such a pair of those that P takes; 0 where there is none. -/
structure IsMost (l : List Int) (P : Nat → Nat → Prop) (m : Nat) : Prop where
  le : ∀ i k, Adj l i k → P i k → k - i - 1 ≤ m
  hit : m = 0 ∨ ∃ i k, Adj l i k ∧ P i k ∧ m = k - i - 1
theorem IsMost.unique {l : List Int} {P : Nat → Nat → Prop} {m n : Nat} (h : IsMost l P m) (g : IsMost l P n) : m = n := by
  have a : m ≤ n := by
    rcases h.hit with h1 | ⟨i, k, h1, h2, h3⟩
    · omega
    · have := g.le i k h1 h2; omega
  have b : n ≤ m := by
    rcases g.hit with h1 | ⟨i, k, h1, h2, h3⟩
    · omega
    · have := h.le i k h1 h2; omega
  omega
theorem IsMost.congr {l : List Int} {P Q : Nat → Nat → Prop} {m : Nat} (h : IsMost l P m) (e : ∀ i k, Adj l i k → (P i k ↔ Q i k)) : IsMost l Q m :=
  ⟨fun i k a q => h.le i k a ((e i k a).2 q), by
    rcases h.hit with h1 | ⟨i, k, h1, h2, h3⟩
    · exact .inl h1
    · exact .inr ⟨i, k, h1, (e i k h1).1 h2, h3⟩⟩
/-- One pair more. -/
theorem IsMost.more {l : List Int} {P : Nat → Nat → Prop} {m a b : Nat} (h : IsMost l P m) (hab : Adj l a b) : IsMost l (fun i k => P i k ∨ (i = a ∧ k = b)) (max m (b - a - 1)) :=
  ⟨fun i k g q => by
    rcases q with q | ⟨rfl, rfl⟩
    · have := h.le i k g q; omega
    · omega, by
    rcases Nat.le_total m (b - a - 1) with h1 | h1
    · exact .inr ⟨a, b, hab, .inr ⟨rfl, rfl⟩, by omega⟩
    · rw [Nat.max_eq_left h1]
      rcases h.hit with h2 | ⟨i, k, h2, h3, h4⟩
      · exact .inl h2
      · exact .inr ⟨i, k, h2, .inl h3, h4⟩⟩

/-- What Gap's own way holds behind the first k. -/
structure GapSt (l : List Int) (k : Nat) (s : Nat × (Int → Option Nat) × Nat) : Prop where
  at_ : s.1 = k
  seen : ∀ y q, s.2.1 y = some q → q < k ∧ l[q]? = some y ∧ ∀ j, q < j → j < k → l[j]? ≠ some y
  unseen : ∀ y, s.2.1 y = none → ∀ j, j < k → l[j]? ≠ some y
  most : IsMost l (fun _ b => b < k) s.2.2
theorem GapSt.step {l : List Int} {k : Nat} {s : Nat × (Int → Option Nat) × Nat} {x : Int} (h : GapSt l k s) (hx : l[k]? = some x) : GapSt l (k + 1) (gstep s x) := by
  have hk : k < l.length := (List.getElem?_eq_some_iff.1 hx).1
  refine ⟨by simp [gstep, h.at_], ?_, ?_, ?_⟩
  · intro y q hq
    simp only [gstep] at hq
    by_cases hy : y = x
    · rw [if_pos hy] at hq
      have : s.1 = q := Option.some.inj hq
      rw [h.at_] at this
      subst this hy
      exact ⟨by omega, hx, fun j h1 h2 => by omega⟩
    · rw [if_neg hy] at hq
      obtain ⟨h1, h2, h3⟩ := h.seen y q hq
      refine ⟨by omega, h2, fun j g1 g2 => ?_⟩
      by_cases hj : j = k
      · subst hj; rw [hx]; intro e; exact hy (Option.some.inj e).symm
      · exact h3 j g1 (by omega)
  · intro y hq j hj
    simp only [gstep] at hq
    by_cases hy : y = x
    · rw [if_pos hy] at hq; cases hq
    · rw [if_neg hy] at hq
      by_cases hjk : j = k
      · subst hjk; rw [hx]; intro e; exact hy (Option.some.inj e).symm
      · exact h.unseen y hq j (by omega)
  · cases hq : s.2.1 x with
    | none =>
      have e : (gstep s x).2.2 = s.2.2 := by simp [gstep, hq]
      rw [e]
      refine h.most.congr fun i b hab => ⟨fun g => by omega, fun g => ?_⟩
      rcases Nat.lt_or_ge b k with g1 | g1
      · exact g1
      · exfalso
        obtain rfl : b = k := by omega
        exact h.unseen x hq i hab.lt (by rw [hab.same, hx])
    | some q =>
      obtain ⟨h1, h2, h3⟩ := h.seen x q hq
      have hadj : Adj l q k := ⟨h1, hk, by rw [h2, hx], fun j g1 g2 => by rw [h2]; exact h3 j g1 g2⟩
      have e : (gstep s x).2.2 = max s.2.2 (k - q - 1) := by simp [gstep, hq, h.at_]
      rw [e]
      refine (h.most.more hadj).congr fun i b hab => ⟨fun g => ?_, fun g => ?_⟩
      · rcases g with g | ⟨_, rfl⟩ <;> omega
      · rcases Nat.lt_or_ge b k with g1 | g1
        · exact .inl g1
        · obtain rfl : b = k := by omega
          have hi : l[i]? = some x := by rw [hab.same, hx]
          refine .inr ⟨?_, rfl⟩
          rcases Nat.lt_trichotomy i q with g2 | g2 | g2
          · exact absurd (by rw [h2, hi]) (hab.free q g2 h1)
          · exact g2
          · exact absurd hi (h3 i g2 hab.lt)
theorem gapSt_take (l : List Int) : ∀ k, k ≤ l.length → GapSt l k ((l.take k).foldl gstep (0, fun _ => none, 0))
  | 0, _ => ⟨rfl, fun y q h => by simp at h, fun y _ j hj => by omega, ⟨fun i k _ h => by omega, .inl rfl⟩⟩
  | k + 1, hk => by
    obtain ⟨x, hx⟩ : ∃ x, l[k]? = some x := ⟨_, List.getElem?_eq_getElem (by omega)⟩
    rw [List.take_add_one, hx, List.foldl_append]
    exact (gapSt_take l k (by omega)).step hx
theorem gapOf_most (l : List Int) : IsMost l (fun i _ => i < l.length) (gapOf l) := by
  have h := (gapSt_take l l.length (Nat.le_refl _)).most
  rw [List.take_length] at h
  exact h.congr fun i b hab => ⟨fun _ => by have := hab.lt; have := hab.top; omega, fun _ => hab.top⟩
/-- The reference's way: pair by pair, by the first place. -/
theorem gap_pair {l : List Int} {i k m : Nat} {x : Int} (h : IsMost l (fun a _ => a < i) m) (hx : l[i]? = some x) (hik : i < k) (hk : k < l.length) (hs : l[k]? = some x) (hn : ∀ j, i < j → j < k → l[j]? ≠ some x) :
    IsMost l (fun a _ => a < i + 1) (max m (k - i - 1)) := by
  have hadj : Adj l i k := ⟨hik, hk, by rw [hx, hs], fun j g1 g2 => by rw [hx]; exact hn j g1 g2⟩
  refine (h.more hadj).congr fun a b hab => ⟨fun g => ?_, fun g => ?_⟩
  · rcases g with g | ⟨rfl, _⟩ <;> omega
  · rcases Nat.lt_or_ge a i with g1 | g1
    · exact .inl g1
    · obtain rfl : a = i := by omega
      refine .inr ⟨rfl, ?_⟩
      have hb : l[b]? = some x := by rw [← hab.same, hx]
      rcases Nat.lt_trichotomy b k with g2 | g2 | g2
      · exact absurd hb (hn b hab.lt g2)
      · exact g2
      · exact absurd (by rw [hs, hx]) (hab.free k hik g2)
theorem gap_alone {l : List Int} {i m : Nat} {x : Int} (h : IsMost l (fun a _ => a < i) m) (hx : l[i]? = some x) (hn : ∀ j, i < j → j < l.length → l[j]? ≠ some x) :
    IsMost l (fun a _ => a < i + 1) m := by
  refine h.congr fun a b hab => ⟨fun g => by omega, fun g => ?_⟩
  rcases Nat.lt_or_ge a i with g1 | g1
  · exact g1
  · exfalso
    obtain rfl : a = i := by omega
    exact hn b hab.lt hab.top (by rw [← hab.same, hx])
theorem ring_twenty {ws : List Int} {h : Nat} (hw : ∀ x ∈ ws, 0 ≤ x ∧ x ≤ 20) (hh : 1 ≤ h) : ringNow ws h 20 0 = ringOut ws h := by
  refine ring_stop hw hh (Nat.zero_le _) (Nat.le_refl _) ?_
  intro y hy
  unfold ringLeft at hy
  rw [List.mem_mapIdx] at hy
  obtain ⟨i, hi, rfl⟩ := hy
  have hb := hw ws[i] (List.getElem_mem hi)
  have h1 : wOf ws i = ws[i].toNat := wOf_get (List.getElem?_eq_getElem hi)
  rw [if_neg (by omega)]
  unfold ringSrv
  rw [h1]
  omega
end Go.Proofs.YtommedhaaojgiaaDoor
