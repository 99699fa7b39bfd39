/- Turns: stations one behind the other each send what they may in a round; plain lists. -/
import Derived.Test.YtpfpaheafpibiaaDoorRows
namespace Go.Proofs.YtpfpaheafpibiaaDoor
set_option linter.unusedVariables false

/-- The stations below a, each so many times. -/
def part (f : Nat → Nat) : Nat → List Int
  | 0 => []
  | a + 1 => part f a ++ List.replicate (f a) (a : Int)
/-- What station i sends in round r, when srv i r is all that it has sent ahead of round r. -/
def amt (srv : Nat → Nat → Nat) (r i : Nat) : Nat := srv i (r + 1) - srv i r
def turns (srv : Nat → Nat → Nat) (n : Nat) : Nat → List Int
  | 0 => []
  | r + 1 => turns srv n r ++ part (amt srv r) n

def psum (f : Nat → Nat) : Nat → Nat
  | 0 => 0
  | a + 1 => psum f a + f a

theorem part_len (f : Nat → Nat) : ∀ a, (part f a).length = psum f a
  | 0 => rfl
  | a + 1 => by rw [part, List.length_append, List.length_replicate, part_len f a, psum]
theorem psum_le (f : Nat → Nat) (h : Nat) (hf : ∀ i, f i ≤ h) : ∀ a, psum f a ≤ a * h
  | 0 => by simp [psum]
  | a + 1 => by have := psum_le f h hf a; have := hf a; rw [psum, Nat.add_mul, Nat.one_mul]; omega
theorem psum_congr {f g : Nat → Nat} : ∀ {a : Nat}, (∀ i, i < a → f i = g i) → psum f a = psum g a
  | 0, _ => rfl
  | a + 1, h => by rw [psum, psum, psum_congr (fun i hi => h i (by omega)), h a (by omega)]
theorem psum_add (f g : Nat → Nat) : ∀ a, psum (fun i => f i + g i) a = psum f a + psum g a
  | 0 => rfl
  | a + 1 => by simp only [psum, psum_add f g a]; omega
theorem part_congr {f g : Nat → Nat} : ∀ {a : Nat}, (∀ i, i < a → f i = g i) → part f a = part g a
  | 0, _ => rfl
  | a + 1, h => by rw [part, part, part_congr (fun i hi => h i (by omega)), h a (by omega)]
theorem part_stop (f : Nat → Nat) (a : Nat) : ∀ m, (∀ i, a ≤ i → i < a + m → f i = 0) → part f (a + m) = part f a
  | 0, _ => rfl
  | m + 1, h => by rw [Nat.add_succ, part, h (a + m) (by omega) (by omega), part_stop f a m (fun i h1 h2 => h i h1 (by omega))]; simp
theorem part_count (f : Nat → Nat) (j : Nat) : ∀ a, (part f a).count (j : Int) = if j < a then f j else 0
  | 0 => by simp [part]
  | a + 1 => by
    rw [part, List.count_append, part_count f j a, List.count_replicate]
    by_cases h : a = j
    · subst h; simp
    · have : ¬ ((a : Int) == (j : Int)) = true := by simp; omega
      rw [if_neg this]
      by_cases h2 : j < a
      · rw [if_pos h2, if_pos (by omega)]; omega
      · rw [if_neg h2, if_neg (by omega)]
theorem part_mem {f : Nat → Nat} {x : Int} : ∀ {a : Nat}, x ∈ part f a → ∃ i, i < a ∧ x = (i : Int)
  | 0, h => by simp [part] at h
  | a + 1, h => by
    rw [part, List.mem_append] at h
    rcases h with h | h
    · obtain ⟨i, hi, e⟩ := part_mem h; exact ⟨i, by omega, e⟩
    · exact ⟨a, by omega, List.eq_of_mem_replicate h⟩

structure Served (srv : Nat → Nat → Nat) : Prop where
  zero : ∀ i, srv i 0 = 0
  mono : ∀ i r, srv i r ≤ srv i (r + 1)
theorem Served.le {srv : Nat → Nat → Nat} (h : Served srv) (i : Nat) {r : Nat} : ∀ {s : Nat}, r ≤ s → srv i r ≤ srv i s
  | 0, hs => by rw [show r = 0 by omega]; exact Nat.le_refl _
  | s + 1, hs => by
    rcases Nat.lt_or_ge r (s + 1) with h1 | h1
    · exact Nat.le_trans (h.le i (by omega)) (h.mono i s)
    · obtain rfl : r = s + 1 := by omega
      exact Nat.le_refl _

theorem turns_count {srv : Nat → Nat → Nat} (h : Served srv) {n j : Nat} (hj : j < n) : ∀ r, (turns srv n r).count (j : Int) = srv j r
  | 0 => by simp [turns, h.zero]
  | r + 1 => by
    rw [turns, List.count_append, turns_count h hj r, part_count, if_pos hj, amt]
    have := h.mono j r
    omega
theorem turns_mem {srv : Nat → Nat → Nat} {n : Nat} {x : Int} : ∀ {r : Nat}, x ∈ turns srv n r → ∃ i, i < n ∧ x = (i : Int)
  | 0, h => by simp [turns] at h
  | r + 1, h => by
    rw [turns, List.mem_append] at h
    rcases h with h | h
    · exact turns_mem h
    · exact part_mem h
theorem turns_len {srv : Nat → Nat → Nat} (h : Served srv) (n : Nat) : ∀ r, (turns srv n r).length = psum (fun i => srv i r) n
  | 0 => by
    have : ∀ a, psum (fun i => srv i 0) a = 0 := fun a => by induction a with | zero => rfl | succ a ih => rw [psum, ih, h.zero]
    rw [this]; rfl
  | r + 1 => by
    rw [turns, List.length_append, turns_len h n r, part_len, ← psum_add]
    refine psum_congr fun i _ => ?_
    have := h.mono i r
    unfold amt; omega
theorem turns_stop {srv : Nat → Nat → Nat} (h : Served srv) {n r : Nat} : ∀ m, (∀ i, i < n → srv i (r + m) = srv i r) → turns srv n (r + m) = turns srv n r
  | 0, _ => rfl
  | m + 1, he => by
    have h0 : ∀ i, i < n → srv i (r + m) = srv i r := fun i hi => by
      have h1 := h.le i (show r ≤ r + m by omega)
      have h2 := h.le i (show r + m ≤ r + (m + 1) by omega)
      have h3 := he i hi
      omega
    have h1 : part (amt srv (r + m)) n = [] := by
      have := part_stop (amt srv (r + m)) 0 n (fun i _ hi => by
        have h1 := he i (by omega); have h2 := h0 i (by omega)
        unfold amt
        rw [show r + m + 1 = r + (m + 1) by omega]; omega)
      rw [Nat.zero_add] at this
      rw [this]; rfl
    rw [Nat.add_succ, turns, turns_stop h m h0, h1, List.append_nil]
/-- Where nothing is left behind (r, a), all has been sent. -/
theorem turns_end {srv : Nat → Nat → Nat} (h : Served srv) {n r a R : Nat} (ha : a ≤ n) (hr : r < R) (h1 : ∀ i, i < a → srv i R = srv i (r + 1)) (h2 : ∀ i, a ≤ i → i < n → srv i R = srv i r) :
    turns srv n r ++ part (amt srv r) a = turns srv n R := by
  have e1 : ∀ i, i < n → srv i R = srv i (r + 1) := fun i hi => by
    by_cases hia : i < a
    · exact h1 i hia
    · have := h2 i (by omega) hi
      have := h.le i (show r + 1 ≤ R by omega)
      have := h.mono i r
      omega
  have e2 := turns_stop h (n := n) (r := r + 1) (R - (r + 1)) (fun i hi => by rw [show r + 1 + (R - (r + 1)) = R by omega]; exact e1 i hi)
  rw [show r + 1 + (R - (r + 1)) = R by omega] at e2
  rw [e2, turns]
  congr 1
  have := part_stop (amt srv r) a (n - a) (fun i hi1 hi2 => by
    have := h2 i hi1 (by omega); have := e1 i (by omega)
    unfold amt; omega)
  rw [show a + (n - a) = n by omega] at this
  exact this.symm

/-- A place in a round. -/
theorem part_at (f : Nat → Nat) : ∀ (a t : Nat), t < (part f a).length → ∃ i k, i < a ∧ k < f i ∧ (part f a).take t = part f i ++ List.replicate k (i : Int) ∧ (part f a)[t]? = some (i : Int)
  | 0, t, h => by simp [part] at h
  | a + 1, t, h => by
    rw [part, List.length_append, List.length_replicate] at h
    by_cases ht : t < (part f a).length
    · obtain ⟨i, k, hi, hk, h1, h2⟩ := part_at f a t ht
      refine ⟨i, k, by omega, hk, ?_, ?_⟩
      · rw [part, List.take_append_of_le_length (by omega)]; exact h1
      · rw [part, List.getElem?_append_left ht]; exact h2
    · refine ⟨a, t - (part f a).length, by omega, by omega, ?_, ?_⟩
      · rw [part, List.take_append, List.take_of_length_le (by omega), List.take_replicate]
        congr 2; omega
      · rw [part, List.getElem?_append_right (by omega), List.getElem?_replicate, if_pos (by omega)]
/-- A place in all. -/
theorem turns_at (srv : Nat → Nat → Nat) (n : Nat) : ∀ (R t : Nat), t < (turns srv n R).length → ∃ r i k, r < R ∧ i < n ∧ k < amt srv r i ∧
    (turns srv n R).take t = turns srv n r ++ part (amt srv r) i ++ List.replicate k (i : Int) ∧ (turns srv n R)[t]? = some (i : Int)
  | 0, t, h => by simp [turns] at h
  | R + 1, t, h => by
    rw [turns, List.length_append] at h
    by_cases ht : t < (turns srv n R).length
    · obtain ⟨r, i, k, hr, hi, hk, h1, h2⟩ := turns_at srv n R t ht
      refine ⟨r, i, k, by omega, hi, hk, ?_, ?_⟩
      · rw [turns, List.take_append_of_le_length (by omega)]; exact h1
      · rw [turns, List.getElem?_append_left ht]; exact h2
    · obtain ⟨i, k, hi, hk, h1, h2⟩ := part_at (amt srv R) n (t - (turns srv n R).length) (by omega)
      refine ⟨R, i, k, by omega, hi, hk, ?_, ?_⟩
      · rw [turns, List.take_append, List.take_of_length_le (by omega), h1, List.append_assoc]
      · rw [turns, List.getElem?_append_right (by omega)]; exact h2
theorem place_count {srv : Nat → Nat → Nat} (h : Served srv) {n r i k j : Nat} (hi : i < n) (hj : j < n) : (turns srv n r ++ part (amt srv r) i ++ List.replicate k (i : Int)).count (j : Int) = (if j < i then srv j (r + 1) else srv j r) + (if j = i then k else 0) := by
  rw [List.count_append, List.count_append, turns_count h hj, part_count, List.count_replicate]
  have hm := h.mono j r
  have e : (if (((i : Int) == (j : Int)) = true) then k else 0) = if j = i then k else 0 := by
    by_cases h : j = i
    · subst h; simp
    · rw [if_neg h, if_neg (by simp; omega)]
  rw [e]
  by_cases h1 : j < i
  · rw [if_pos h1, if_pos h1]; unfold amt; omega
  · rw [if_neg h1, if_neg h1]; omega

theorem part_front (f : Nat → Nat) {i : Nat} : ∀ {n : Nat}, i < n → ∃ T, part f n = part f i ++ (List.replicate (f i) (i : Int) ++ T)
  | 0, h => by omega
  | n + 1, h => by
    rw [part]
    rcases Nat.lt_or_ge i n with h1 | h1
    · obtain ⟨T, e⟩ := part_front f h1
      exact ⟨T ++ List.replicate (f n) (n : Int), by rw [e]; simp⟩
    · obtain rfl : i = n := by omega
      exact ⟨[], by simp⟩
theorem turns_front (srv : Nat → Nat → Nat) (n : Nat) : ∀ R, ∃ T, turns srv n (R + 1) = part (amt srv 0) n ++ T
  | 0 => ⟨[], by simp [turns]⟩
  | R + 1 => by
    obtain ⟨T, e⟩ := turns_front srv n R
    exact ⟨T ++ part (amt srv (R + 1)) n, by rw [turns, e, List.append_assoc]⟩
/-- The first thing of a station. -/
theorem turns_first (srv : Nat → Nat → Nat) {n i : Nat} (R : Nat) (hi : i < n) (h0 : 0 < amt srv 0 i) :
    (turns srv n (R + 1)).take (psum (amt srv 0) i) = part (amt srv 0) i ∧ (turns srv n (R + 1))[psum (amt srv 0) i]? = some (i : Int) := by
  obtain ⟨T, e⟩ := turns_front srv n R
  obtain ⟨T2, e2⟩ := part_front (amt srv 0) hi
  rw [e, e2, ← part_len]
  simp only [List.append_assoc]
  refine ⟨by rw [List.take_left], ?_⟩
  rw [List.getElem?_append_right (Nat.le_refl _), Nat.sub_self, List.getElem?_append_left (by simpa using h0), List.getElem?_replicate, if_pos h0]
theorem part_notMem (f : Nat → Nat) (i : Nat) : ¬ (i : Int) ∈ part f i := by
  intro h
  obtain ⟨j, hj, e⟩ := part_mem h
  omega
end Go.Proofs.YtpfpaheafpibiaaDoor
