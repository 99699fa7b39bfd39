/- Deficit round robin: what each queue has been served after so many rounds; plain lists. -/
import Derived.Test.YtpfpaheafpibiaaDoorRows
import Derived.Test.YtpfpaheafpibiaaDoorTurns
namespace Go.Proofs.YtpfpaheafpibiaaDoor
set_option linter.unusedVariables false

/-- How many of a queue fit into c. -/
def upto : List Int → Int → Nat
  | [], _ => 0
  | x :: r, c => if x ≤ c then upto r (c - x) + 1 else 0
theorem upto_le : ∀ (q : List Int) (c : Int), upto q c ≤ q.length
  | [], _ => Nat.le_refl _
  | x :: r, c => by
    unfold upto
    split
    · have := upto_le r (c - x); simp; omega
    · omega
theorem sum_take_nonneg : ∀ (q : List Int) (k : Nat), (∀ x ∈ q, 0 ≤ x) → 0 ≤ (q.take k).sum
  | [], k, _ => by simp
  | x :: r, 0, _ => by simp
  | x :: r, k + 1, h => by
    have h1 := h x (by simp)
    have h2 := sum_take_nonneg r k (fun y hy => h y (by simp [hy]))
    rw [List.take_succ_cons, List.sum_cons]; omega
theorem upto_lt : ∀ (q : List Int) (c : Int) (j : Nat), (∀ x ∈ q, 0 ≤ x) → (j < upto q c ↔ j < q.length ∧ (q.take (j + 1)).sum ≤ c)
  | [], c, j, _ => by simp [upto]
  | x :: r, c, j, h => by
    have h1 := h x (by simp)
    have h2 : ∀ y ∈ r, 0 ≤ y := fun y hy => h y (by simp [hy])
    unfold upto
    rw [List.take_succ_cons, List.sum_cons, List.length_cons]
    split
    · rename_i hx
      cases j with
      | zero => simp; exact hx
      | succ j =>
        have ih := upto_lt r (c - x) j h2
        rw [show (j + 1 < upto r (c - x) + 1) = (j < upto r (c - x)) by simp, ih]
        constructor
        · rintro ⟨a, b⟩; exact ⟨by omega, by omega⟩
        · rintro ⟨a, b⟩; exact ⟨by omega, by omega⟩
    · rename_i hx
      have := sum_take_nonneg r j h2
      constructor
      · intro h; omega
      · rintro ⟨_, b⟩; omega
theorem upto_mono {q : List Int} (h : ∀ x ∈ q, 0 ≤ x) {c c' : Int} (hc : c ≤ c') : upto q c ≤ upto q c' := by
  rcases Nat.lt_or_ge (upto q c') (upto q c) with h1 | h1
  · have h2 := (upto_lt q c _ h).1 h1
    have h3 := (upto_lt q c' (upto q c') h).2 ⟨h2.1, by omega⟩
    omega
  · exact h1
theorem sum_upto {q : List Int} (h : ∀ x ∈ q, 0 ≤ x) {c : Int} (hc : 0 ≤ c) {j : Nat} (hj : j ≤ upto q c) : (q.take j).sum ≤ c := by
  cases j with
  | zero => simpa using hc
  | succ j => exact ((upto_lt q c j h).1 (by omega)).2
theorem sum_past {q : List Int} (h : ∀ x ∈ q, 0 ≤ x) {c : Int} (hl : upto q c < q.length) : c < (q.take (upto q c + 1)).sum := by
  rcases Int.lt_or_le c (q.take (upto q c + 1)).sum with h1 | h1
  · exact h1
  · have := (upto_lt q c (upto q c) h).2 ⟨hl, h1⟩; omega
theorem take_sum_mono {q : List Int} (h : ∀ x ∈ q, 0 ≤ x) {i : Nat} : ∀ {j : Nat}, i ≤ j → (q.take i).sum ≤ (q.take j).sum
  | 0, hj => by rw [show i = 0 by omega]; exact Int.le_refl _
  | j + 1, hj => by
    rcases Nat.lt_or_ge i (j + 1) with h1 | h1
    · have := take_sum_mono h (j := j) (by omega : i ≤ j)
      rw [List.take_add_one, List.sum_append]
      cases hq : q[j]? with
      | none => simp; omega
      | some x =>
        have := h x (List.mem_iff_getElem?.2 ⟨j, hq⟩)
        simp; omega
    · rw [show i = j + 1 by omega]; exact Int.le_refl _
theorem take_sum_le {q : List Int} {b : Int} (h : ∀ x ∈ q, 0 ≤ x ∧ x ≤ b) : ∀ (k : Nat), k ≤ q.length → (q.take k).sum ≤ k * b
  | 0, _ => by simp
  | k + 1, hk => by
    obtain ⟨x, hx⟩ : ∃ x, q[k]? = some x := ⟨_, List.getElem?_eq_getElem (by omega)⟩
    have h1 := h x (List.mem_iff_getElem?.2 ⟨k, hx⟩)
    have h2 := take_sum_le h k (by omega)
    rw [List.take_add_one, hx, List.sum_append, show ((k + 1 : Nat) : Int) = (k : Int) + 1 by omega, Int.add_mul]
    simp; omega
theorem take_sum_succ {q : List Int} {k : Nat} {x : Int} (hx : q[k]? = some x) : (q.take (k + 1)).sum = (q.take k).sum + x := by
  rw [List.take_add_one, hx, List.sum_append]; simp

/-- The queues that Run takes. -/
structure QsOk (qs : List (List Int)) : Prop where
  few : qs.length ≤ 5
  all : ∀ q ∈ qs, q.length ≤ 8 ∧ ∀ x ∈ q, 1 ≤ x ∧ x ≤ 20
theorem QsOk.at {qs : List (List Int)} (h : QsOk qs) (i : Nat) : (qs.getD i []).length ≤ 8 ∧ ∀ x ∈ qs.getD i [], 1 ≤ x ∧ x ≤ 20 := by
  rw [List.getD_eq_getElem?_getD]
  cases hq : qs[i]? with
  | none => simp
  | some q => simpa using h.all q (List.mem_iff_getElem?.2 ⟨i, hq⟩)
theorem QsOk.nn {qs : List (List Int)} (h : QsOk qs) (i : Nat) : ∀ x ∈ qs.getD i [], 0 ≤ x := fun x hx => by have := (h.at i).2 x hx; omega

def drrSrv (qs : List (List Int)) (Q i r : Nat) : Nat := upto (qs.getD i []) ((r * Q : Nat) : Int)
theorem drrServed {qs : List (List Int)} (h : QsOk qs) (Q : Nat) : Served (drrSrv qs Q) := by
  refine ⟨fun i => ?_, fun i r => ?_⟩
  · unfold drrSrv
    rcases Nat.eq_zero_or_pos (upto (qs.getD i []) ((0 * Q : Nat) : Int)) with h1 | h1
    · exact h1
    · have h2 := ((upto_lt _ _ 0 (h.nn i)).1 h1)
      obtain ⟨x, hx⟩ : ∃ x, (qs.getD i [])[0]? = some x := ⟨_, List.getElem?_eq_getElem h2.1⟩
      have h3 := (h.at i).2 x (List.mem_iff_getElem?.2 ⟨0, hx⟩)
      have h4 := h2.2
      rw [take_sum_succ hx] at h4
      simp at h4; omega
  · unfold drrSrv
    refine upto_mono (h.nn i) ?_
    rw [Nat.add_mul]; omega
theorem drrSrv_le (qs : List (List Int)) (Q i r : Nat) : drrSrv qs Q i r ≤ (qs.getD i []).length := upto_le _ _
theorem getD_sum_le {qs : List (List Int)} (h : QsOk qs) (i k : Nat) : ((qs.getD i []).take k).sum ≤ 160 := by
  have h1 := h.at i
  have h2 : (qs.getD i []).take k = (qs.getD i []).take (min k (qs.getD i []).length) := by
    rw [← List.take_eq_take_min]
  rw [h2]
  have h3 := take_sum_le (q := qs.getD i []) (b := 20) (fun x hx => by have := h1.2 x hx; omega) (min k (qs.getD i []).length) (by omega)
  omega
/-- Enough rounds serve all. -/
theorem drrSrv_all {qs : List (List Int)} (h : QsOk qs) {Q i r : Nat} (hQ : 1 ≤ Q) (hr : 160 ≤ r) : drrSrv qs Q i r = (qs.getD i []).length := by
  refine Nat.le_antisymm (drrSrv_le ..) ?_
  rcases Nat.lt_or_ge (drrSrv qs Q i r) (qs.getD i []).length with h1 | h1
  · have h2 := sum_past (h.nn i) h1
    have h3 := getD_sum_le h i (upto (qs.getD i []) ((r * Q : Nat) : Int) + 1)
    have h4 : r * 1 ≤ r * Q := Nat.mul_le_mul_left r hQ
    omega
  · exact h1
theorem drr_round {qs : List (List Int)} (h : QsOk qs) {Q i r : Nat} (hQ : 1 ≤ Q) (hl : drrSrv qs Q i r < (qs.getD i []).length) : r < 160 := by
  rcases Nat.lt_or_ge r 160 with h1 | h1
  · exact h1
  · have := drrSrv_all h (i := i) hQ h1; omega

def drrOut (qs : List (List Int)) (Q : Nat) : List Int := turns (drrSrv qs Q) qs.length (161 + qs.length)
def drrNow (qs : List (List Int)) (Q r a : Nat) : List Int := turns (drrSrv qs Q) qs.length r ++ part (amt (drrSrv qs Q) r) a
def drrTot (qs : List (List Int)) : Nat := psum (fun i => (qs.getD i []).length) qs.length

theorem psum_mono {f g : Nat → Nat} : ∀ {n : Nat}, (∀ i, i < n → f i ≤ g i) → psum f n ≤ psum g n
  | 0, _ => Nat.le_refl _
  | n + 1, h => by have := psum_mono (f := f) (g := g) (n := n) (fun i hi => h i (by omega)); have := h n (by omega); simp only [psum]; omega
theorem psum_lt {f g : Nat → Nat} : ∀ {n : Nat}, psum f n < psum g n → ∃ i, i < n ∧ f i < g i
  | 0, h => by simp [psum] at h
  | n + 1, h => by
    rcases Nat.lt_or_ge (f n) (g n) with h1 | h1
    · exact ⟨n, by omega, h1⟩
    · simp only [psum] at h
      obtain ⟨i, hi, e⟩ := psum_lt (f := f) (g := g) (n := n) (by omega)
      exact ⟨i, by omega, e⟩
theorem psum_same {f g : Nat → Nat} : ∀ {n : Nat}, (∀ i, i < n → f i ≤ g i) → psum g n ≤ psum f n → ∀ i, i < n → f i = g i
  | 0, _, _, i, hi => by omega
  | n + 1, h, hs, i, hi => by
    have h1 := psum_mono (f := f) (g := g) (n := n) (fun i hi => h i (by omega))
    have h2 := h n (by omega)
    simp only [psum] at hs
    rcases Nat.lt_or_ge i n with h3 | h3
    · exact psum_same (n := n) (fun i hi => h i (by omega)) (by omega) i h3
    · rw [show i = n by omega]; omega

theorem drrNow_zero (qs : List (List Int)) (Q r : Nat) : (drrNow qs Q r 0) = turns (drrSrv qs Q) qs.length r := by simp [drrNow, part]
theorem drr_len {qs : List (List Int)} (h : QsOk qs) (Q r : Nat) : (turns (drrSrv qs Q) qs.length r).length = psum (fun i => drrSrv qs Q i r) qs.length := turns_len (drrServed h Q) _ _
/-- There is more to serve: it is an early round. -/
theorem drr_more {qs : List (List Int)} (h : QsOk qs) {Q r : Nat} (hQ : 1 ≤ Q) (hl : (drrNow qs Q r 0).length < drrTot qs) : r < 160 := by
  rw [drrNow_zero, drr_len h] at hl
  obtain ⟨i, _, hi⟩ := psum_lt hl
  exact drr_round h hQ hi
theorem drr_done {qs : List (List Int)} (h : QsOk qs) {Q r : Nat} (hQ : 1 ≤ Q) (hr : r ≤ 160) (hl : ¬ (drrNow qs Q r 0).length < drrTot qs) : drrNow qs Q r 0 = drrOut qs Q := by
  rw [drrNow_zero, drr_len h] at hl
  have h1 := psum_same (f := fun i => drrSrv qs Q i r) (g := fun i => (qs.getD i []).length) (n := qs.length) (fun i _ => drrSrv_le ..) (by unfold drrTot at hl; omega)
  rw [drrNow_zero]
  have h2 := turns_stop (drrServed h Q) (n := qs.length) (r := r) (161 + qs.length - r) (fun i hi => by
    have h3 := h1 i hi
    rw [show r + (161 + qs.length - r) = 161 + qs.length by omega, drrSrv_all h hQ (by omega)]; exact h3.symm)
  rw [show r + (161 + qs.length - r) = 161 + qs.length by omega] at h2
  exact h2.symm
theorem drrNow_wrap (qs : List (List Int)) (Q r : Nat) : drrNow qs Q r qs.length = drrNow qs Q (r + 1) 0 := by simp [drrNow, part, turns]
theorem drrNow_turn (qs : List (List Int)) (Q r a : Nat) : drrNow qs Q r (a + 1) = drrNow qs Q r a ++ List.replicate (amt (drrSrv qs Q) r a) (a : Int) := by simp [drrNow, part]
theorem drrNow_len {qs : List (List Int)} (h : QsOk qs) (Q r : Nat) {a : Nat} (ha : a ≤ qs.length) : (drrNow qs Q r a).length ≤ 80 := by
  have top : ∀ i R, drrSrv qs Q i R ≤ 8 := fun i R => Nat.le_trans (drrSrv_le ..) (h.at i).1
  have hf := h.few
  unfold drrNow
  rw [List.length_append, drr_len h, part_len]
  have h1 := psum_le (fun i => drrSrv qs Q i r) 8 (fun i => top i r) qs.length
  have h2 := psum_le (amt (drrSrv qs Q) r) 8 (fun i => by have := top i (r + 1); unfold amt; omega) a
  omega

/-- What is left of each queue, and how much it may still have. -/
def restAt (qs : List (List Int)) (Q r a : Nat) : List (List Int) := qs.mapIdx fun i q => q.drop (drrSrv qs Q i (if i < a then r + 1 else r))
def dOf (qs : List (List Int)) (Q i r : Nat) : Int := if drrSrv qs Q i r = (qs.getD i []).length then 0 else ((r * Q : Nat) : Int) - ((qs.getD i []).take (drrSrv qs Q i r)).sum
def defAt (qs : List (List Int)) (Q r a : Nat) : List Int := qs.mapIdx fun i q => dOf qs Q i (if i < a then r + 1 else r)

theorem restAt_len (qs : List (List Int)) (Q r a : Nat) : (restAt qs Q r a).length = qs.length := by simp [restAt]
theorem defAt_len (qs : List (List Int)) (Q r a : Nat) : (defAt qs Q r a).length = qs.length := by simp [defAt]
theorem restAt_get {qs : List (List Int)} {Q r a i : Nat} {q : List Int} (hq : qs[i]? = some q) : (restAt qs Q r a)[i]? = some (q.drop (drrSrv qs Q i (if i < a then r + 1 else r))) := by
  simp [restAt, List.getElem?_mapIdx, hq]
theorem defAt_get {qs : List (List Int)} {Q r a i : Nat} {q : List Int} (hq : qs[i]? = some q) : (defAt qs Q r a)[i]? = some (dOf qs Q i (if i < a then r + 1 else r)) := by
  simp [defAt, List.getElem?_mapIdx, hq]
theorem restAt_zero {qs : List (List Int)} (h : QsOk qs) (Q : Nat) : restAt qs Q 0 0 = qs := by
  refine List.ext_getElem? fun i => ?_
  cases hq : qs[i]? with
  | none => simp [restAt, List.getElem?_mapIdx, hq]
  | some q => rw [restAt_get hq]; simp [(drrServed h Q).zero]
theorem defAt_zero {qs : List (List Int)} (h : QsOk qs) (Q : Nat) : defAt qs Q 0 0 = List.replicate qs.length 0 := by
  refine List.ext_getElem? fun i => ?_
  cases hq : qs[i]? with
  | none =>
    have : qs.length ≤ i := List.getElem?_eq_none_iff.1 hq
    rw [List.getElem?_eq_none (by rw [defAt_len]; exact this), List.getElem?_eq_none (by simpa using this)]
  | some q =>
    have hi := (List.getElem?_eq_some_iff.1 hq).1
    rw [defAt_get hq, List.getElem?_replicate, if_pos hi]
    simp [dOf, (drrServed h Q).zero]
theorem restAt_wrap (qs : List (List Int)) (Q r : Nat) : restAt qs Q r qs.length = restAt qs Q (r + 1) 0 := by
  refine List.ext_getElem? fun i => ?_
  cases hq : qs[i]? with
  | none => simp [restAt, List.getElem?_mapIdx, hq]
  | some q => rw [restAt_get hq, restAt_get hq, if_pos (List.getElem?_eq_some_iff.1 hq).1, if_neg (by omega)]
theorem defAt_wrap (qs : List (List Int)) (Q r : Nat) : defAt qs Q r qs.length = defAt qs Q (r + 1) 0 := by
  refine List.ext_getElem? fun i => ?_
  cases hq : qs[i]? with
  | none => simp [defAt, List.getElem?_mapIdx, hq]
  | some q => rw [defAt_get hq, defAt_get hq, if_pos (List.getElem?_eq_some_iff.1 hq).1, if_neg (by omega)]
theorem restAt_turn {qs : List (List Int)} {Q r a : Nat} {q : List Int} (hq : qs[a]? = some q) : (restAt qs Q r a).set a (q.drop (drrSrv qs Q a (r + 1))) = restAt qs Q r (a + 1) := by
  have ha := (List.getElem?_eq_some_iff.1 hq).1
  refine List.ext_getElem? fun i => ?_
  by_cases hi : i = a
  · subst hi
    rw [List.getElem?_set_self (by rw [restAt_len]; exact ha), restAt_get hq, if_pos (by omega)]
  · rw [List.getElem?_set_ne (by omega)]
    cases hy : qs[i]? with
    | none => simp [restAt, List.getElem?_mapIdx, hy]
    | some y =>
      rw [restAt_get hy, restAt_get hy]
      by_cases h1 : i < a
      · rw [if_pos h1, if_pos (by omega)]
      · rw [if_neg h1, if_neg (by omega)]
theorem defAt_turn {qs : List (List Int)} {Q r a : Nat} {q : List Int} (hq : qs[a]? = some q) : (defAt qs Q r a).set a (dOf qs Q a (r + 1)) = defAt qs Q r (a + 1) := by
  have ha := (List.getElem?_eq_some_iff.1 hq).1
  refine List.ext_getElem? fun i => ?_
  by_cases hi : i = a
  · subst hi
    rw [List.getElem?_set_self (by rw [defAt_len]; exact ha), defAt_get hq, if_pos (by omega)]
  · rw [List.getElem?_set_ne (by omega)]
    cases hy : qs[i]? with
    | none => simp [defAt, List.getElem?_mapIdx, hy]
    | some y =>
      rw [defAt_get hy, defAt_get hy]
      by_cases h1 : i < a
      · rw [if_pos h1, if_pos (by omega)]
      · rw [if_neg h1, if_neg (by omega)]
/-- Where nothing is left a queue's turn does nothing. -/
theorem drr_idle {qs : List (List Int)} (h : QsOk qs) {Q r a : Nat} {q : List Int} (hq : qs[a]? = some q) (hz : q.length ≤ drrSrv qs Q a r) :
    restAt qs Q r (a + 1) = restAt qs Q r a ∧ defAt qs Q r (a + 1) = defAt qs Q r a ∧ drrNow qs Q r (a + 1) = drrNow qs Q r a := by
  have ha := (List.getElem?_eq_some_iff.1 hq).1
  have hg : qs.getD a [] = q := by rw [List.getD_eq_getElem?_getD, hq]; rfl
  have h0 := drrSrv_le qs Q a r
  have h1 := drrSrv_le qs Q a (r + 1)
  have h2 := (drrServed h Q).mono a r
  rw [hg] at h0 h1
  have e1 : drrSrv qs Q a (r + 1) = drrSrv qs Q a r := by omega
  have set_id : ∀ {α : Type} (l : List α) (x : α), l[a]? = some x → l.set a x = l := fun l x hx => by
    refine List.ext_getElem? fun i => ?_
    by_cases hi : i = a
    · subst hi; rw [List.getElem?_set_self (List.getElem?_eq_some_iff.1 hx).1, hx]
    · rw [List.getElem?_set_ne (by omega)]
  refine ⟨?_, ?_, ?_⟩
  · rw [← restAt_turn hq, e1]
    refine set_id _ _ ?_
    rw [restAt_get hq, if_neg (by omega)]
  · rw [← defAt_turn hq]
    refine set_id _ _ ?_
    rw [defAt_get hq, if_neg (by omega)]
    simp only [dOf]
    rw [if_pos (by rw [hg]; omega), if_pos (by rw [hg]; omega)]
  · rw [drrNow_turn]
    have : amt (drrSrv qs Q) r a = 0 := by unfold amt; omega
    rw [this]; simp

/-- A queue's turn: after j of it. -/
structure Turn (qs : List (List Int)) (Q r a : Nat) (q : List Int) (j : Nat) (d : Int) : Prop where
  le : drrSrv qs Q a r + j ≤ drrSrv qs Q a (r + 1)
  dd : d = (((r + 1) * Q : Nat) : Int) - (q.take (drrSrv qs Q a r + j)).sum
theorem Turn.lo {qs : List (List Int)} {Q r a j : Nat} {q : List Int} {d : Int} (h : QsOk qs) (hq : qs[a]? = some q) (t : Turn qs Q r a q j d) : -200 ≤ d := by
  have hg : qs.getD a [] = q := by rw [List.getD_eq_getElem?_getD, hq]; rfl
  have h1 := getD_sum_le h a (drrSrv qs Q a r + j)
  rw [hg] at h1
  have := t.dd
  omega
theorem Turn.hi {qs : List (List Int)} {Q r a j : Nat} {q : List Int} {d : Int} (h : QsOk qs) (hq : qs[a]? = some q) (hr : r ≤ 160) (hQ : Q ≤ 20) (t : Turn qs Q r a q j d) : d ≤ 4000 := by
  have h1 := sum_take_nonneg q (drrSrv qs Q a r + j) (fun x hx => by have := (h.all q (List.mem_iff_getElem?.2 ⟨a, hq⟩)).2 x hx; omega)
  have h2 : (r + 1) * Q ≤ 161 * 20 := Nat.mul_le_mul (by omega) hQ
  have := t.dd
  omega
/-- Another one is served. -/
theorem Turn.more {qs : List (List Int)} {Q r a j : Nat} {q : List Int} {d : Int} (h : QsOk qs) (hq : qs[a]? = some q) (t : Turn qs Q r a q j d) (hlt : drrSrv qs Q a r + j < drrSrv qs Q a (r + 1)) :
    ∃ x, q.drop (drrSrv qs Q a r + j) = x :: q.drop (drrSrv qs Q a r + (j + 1)) ∧ x ≤ d ∧ 1 ≤ x ∧ x ≤ 20 ∧ Turn qs Q r a q (j + 1) (d - x) := by
  have hg : qs.getD a [] = q := by rw [List.getD_eq_getElem?_getD, hq]; rfl
  have hnn := h.nn a
  rw [hg] at hnn
  have h1 := hlt
  rw [show drrSrv qs Q a (r + 1) = upto q (((r + 1) * Q : Nat) : Int) by unfold drrSrv; rw [hg]] at h1
  obtain ⟨h2, h3⟩ := (upto_lt q _ _ hnn).1 h1
  obtain ⟨x, hx⟩ : ∃ x, q[drrSrv qs Q a r + j]? = some x := ⟨_, List.getElem?_eq_getElem h2⟩
  rw [take_sum_succ hx] at h3
  have hxb := (h.all q (List.mem_iff_getElem?.2 ⟨a, hq⟩)).2 x (List.mem_iff_getElem?.2 ⟨_, hx⟩)
  have hd := t.dd
  refine ⟨x, ?_, by omega, hxb.1, hxb.2, by omega, ?_⟩
  · rw [List.drop_eq_getElem_cons h2]
    have := (List.getElem?_eq_some_iff.1 hx).2
    rw [this]; rfl
  · rw [← Nat.add_assoc, take_sum_succ hx]; omega
/-- No more is served: the next one is too great, or there is none. -/
theorem Turn.stop {qs : List (List Int)} {Q r a j : Nat} {q : List Int} {d : Int} (h : QsOk qs) (hq : qs[a]? = some q) (t : Turn qs Q r a q j d) (hge : ¬ drrSrv qs Q a r + j < drrSrv qs Q a (r + 1)) :
    drrSrv qs Q a r + j = drrSrv qs Q a (r + 1) ∧ ((q.drop (drrSrv qs Q a r + j) = [] ∧ dOf qs Q a (r + 1) = 0) ∨ (∃ x r', q.drop (drrSrv qs Q a r + j) = x :: r' ∧ d < x ∧ r'.length ≤ 8 ∧ dOf qs Q a (r + 1) = d)) := by
  have hg : qs.getD a [] = q := by rw [List.getD_eq_getElem?_getD, hq]; rfl
  have hnn := h.nn a
  have h8 := (h.at a).1
  rw [hg] at hnn h8
  have hle := t.le
  have he : drrSrv qs Q a r + j = drrSrv qs Q a (r + 1) := by omega
  refine ⟨he, ?_⟩
  have hk := drrSrv_le qs Q a (r + 1)
  rw [hg] at hk
  by_cases hf : drrSrv qs Q a (r + 1) = q.length
  · left
    refine ⟨List.drop_of_length_le (by omega), ?_⟩
    unfold dOf; rw [hg, if_pos hf]
  · right
    have h2 : drrSrv qs Q a r + j < q.length := by omega
    obtain ⟨x, hx⟩ : ∃ x, q[drrSrv qs Q a r + j]? = some x := ⟨_, List.getElem?_eq_getElem h2⟩
    have hu : drrSrv qs Q a (r + 1) = upto q (((r + 1) * Q : Nat) : Int) := by unfold drrSrv; rw [hg]
    have h3 := sum_past hnn (c := (((r + 1) * Q : Nat) : Int)) (by rw [← hu]; omega)
    rw [← hu, ← he, take_sum_succ hx] at h3
    have hd := t.dd
    refine ⟨x, q.drop (drrSrv qs Q a r + j + 1), ?_, by omega, by simp; omega, ?_⟩
    · rw [List.drop_eq_getElem_cons h2, (List.getElem?_eq_some_iff.1 hx).2]
    · unfold dOf; rw [hg, if_neg hf, ← he, hd]
/-- The turn begins. -/
theorem Turn.start {qs : List (List Int)} {Q r a : Nat} {q : List Int} (h : QsOk qs) (hq : qs[a]? = some q) (hlt : drrSrv qs Q a r < q.length) : Turn qs Q r a q 0 (dOf qs Q a r + (Q : Int)) := by
  have hg : qs.getD a [] = q := by rw [List.getD_eq_getElem?_getD, hq]; rfl
  refine ⟨(drrServed h Q).mono a r, ?_⟩
  unfold dOf
  rw [hg, if_neg (by omega), Nat.add_mul]
  simp only [Nat.add_zero]; omega

/-- What is wrong with some queues. -/
def qCode (q : List Int) : Int := if 8 < q.length then 4 else if ∀ x ∈ q, 1 ≤ x ∧ x ≤ 20 then 0 else 1
def qsCode : List (List Int) → Int
  | [] => 0
  | q :: r => if qCode q = 0 then qsCode r else qCode q
def checkCode (qs : List (List Int)) : Int := if 5 < qs.length then 4 else qsCode qs
def runCode (qs : List (List Int)) (Q : Int) : Int := if checkCode qs = 0 then (if 1 ≤ Q ∧ Q ≤ 20 then 0 else 1) else checkCode qs
theorem qCode_zero {q : List Int} : qCode q = 0 ↔ q.length ≤ 8 ∧ ∀ x ∈ q, 1 ≤ x ∧ x ≤ 20 := by
  unfold qCode
  by_cases h1 : 8 < q.length
  · rw [if_pos h1]; constructor
    · intro h; omega
    · intro h; omega
  · rw [if_neg h1]
    by_cases h2 : ∀ x ∈ q, 1 ≤ x ∧ x ≤ 20
    · rw [if_pos h2]; exact ⟨fun _ => ⟨by omega, h2⟩, fun _ => rfl⟩
    · rw [if_neg h2]; exact ⟨fun h => by omega, fun h => absurd h.2 h2⟩
theorem qsCode_zero : ∀ {qs : List (List Int)}, qsCode qs = 0 ↔ ∀ q ∈ qs, q.length ≤ 8 ∧ ∀ x ∈ q, 1 ≤ x ∧ x ≤ 20
  | [] => by simp [qsCode]
  | q :: r => by
    rw [qsCode, List.forall_mem_cons]
    by_cases h : qCode q = 0
    · rw [if_pos h, qsCode_zero]
      exact ⟨fun h2 => ⟨qCode_zero.1 h, h2⟩, fun h2 => h2.2⟩
    · rw [if_neg h]
      exact ⟨fun h2 => absurd h2 h, fun h2 => absurd (qCode_zero.2 h2.1) h⟩
theorem checkCode_zero {qs : List (List Int)} : checkCode qs = 0 ↔ QsOk qs := by
  unfold checkCode
  by_cases h : 5 < qs.length
  · rw [if_pos h]; exact ⟨fun h2 => by omega, fun h2 => by have := h2.few; omega⟩
  · rw [if_neg h, qsCode_zero]; exact ⟨fun h2 => ⟨by omega, h2⟩, fun h2 => h2.all⟩
theorem runCode_zero {qs : List (List Int)} {Q : Int} : runCode qs Q = 0 ↔ QsOk qs ∧ 1 ≤ Q ∧ Q ≤ 20 := by
  unfold runCode
  by_cases h : checkCode qs = 0
  · rw [if_pos h]
    by_cases h2 : 1 ≤ Q ∧ Q ≤ 20
    · rw [if_pos h2]; exact ⟨fun _ => ⟨checkCode_zero.1 h, h2⟩, fun _ => rfl⟩
    · rw [if_neg h2]; exact ⟨fun h3 => by omega, fun h3 => absurd h3.2 h2⟩
  · rw [if_neg h]; exact ⟨fun h2 => absurd h2 h, fun h2 => absurd (checkCode_zero.2 h2.1) h⟩
theorem qsCode_step {qs : List (List Int)} {k : Nat} {q : List Int} (hq : qs[k]? = some q) : qsCode (qs.drop k) = if qCode q = 0 then qsCode (qs.drop (k + 1)) else qCode q := by
  have hk := (List.getElem?_eq_some_iff.1 hq)
  rw [List.drop_eq_getElem_cons hk.1, hk.2, qsCode]
end Go.Proofs.YtpfpaheafpibiaaDoor
