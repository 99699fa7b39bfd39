/- Plain: the document's stations (how often met, in which slot next) beside the program's (how often met, how many slots to wait). -/
import Derived.Test.YthnlpmjfibidcaaDoorRetryPlain
namespace Go.Proofs.YthnlpmjfibidcaaDoor
set_option linter.unusedVariables false

theorem nowFrom_mem : ∀ (i : Nat) (st : Sts) (k : Nat) (p : Int × Int), st[k]? = some p → p.2 = 0 → ((i + k : Nat) : Int) ∈ nowFrom i st
  | i, [], k, p, h, _ => by simp at h
  | i, q :: r, 0, p, h, h0 => by
    simp at h; subst h
    simp only [nowFrom, if_pos h0]
    exact List.mem_cons_self ..
  | i, q :: r, k + 1, p, h, h0 => by
    simp only [List.getElem?_cons_succ] at h
    have := nowFrom_mem (i + 1) r k p h h0
    rw [show i + 1 + k = i + (k + 1) by omega] at this
    simp only [nowFrom]
    split
    · exact List.mem_cons_of_mem _ this
    · exact this
theorem nowFrom_zero : ∀ (i : Nat) (st : Sts) (x : Int), x ∈ nowFrom i st → ∃ (k : Nat) (p : Int × Int), x = ((i + k : Nat) : Int) ∧ st[k]? = some p ∧ p.2 = 0
  | _, [], x, h => by simp [nowFrom] at h
  | i, q :: r, x, h => by
    simp only [nowFrom] at h
    split at h
    · next h0 =>
      rcases List.mem_cons.1 h with rfl | h
      · exact ⟨0, q, rfl, rfl, h0⟩
      · obtain ⟨k, p, e, h1, h2⟩ := nowFrom_zero (i + 1) r x h
        exact ⟨k + 1, p, by rw [e]; omega, h1, h2⟩
    · obtain ⟨k, p, e, h1, h2⟩ := nowFrom_zero (i + 1) r x h
      exact ⟨k + 1, p, by rw [e]; omega, h1, h2⟩

/-- One station: met so often; its next slot, or the one in which it sent. -/
def St1 (s : Int) (p : Int × Int) (m t : Int) : Prop := m = p.1 ∧ (0 ≤ p.2 → t = s + p.2) ∧ (p.2 < 0 → t < s)
/-- R: those whose next slot is not known yet. -/
structure RefMid (s : Int) (st : Sts) (M T : List Int) (R : List Int) : Prop where
  lm : M.length = st.length
  lt : T.length = st.length
  met : ∀ (k : Nat) (p : Int × Int), st[k]? = some p → M[k]? = some p.1
  nxt : ∀ (k : Nat) (p : Int × Int), st[k]? = some p → (k : Int) ∉ R → ∃ t, T[k]? = some t ∧ (0 ≤ p.2 → t = s + p.2) ∧ (p.2 < 0 → t < s)
abbrev RefSt (s : Int) (st : Sts) (M T : List Int) : Prop := RefMid s st M T []
theorem RefSt.zero (n : Nat) : RefSt 0 (List.replicate n (0, 0)) (List.replicate n 0) (List.replicate n 0) where
  lm := by simp
  lt := by simp
  met := fun k p h => by
    rw [List.getElem?_replicate] at h ⊢
    split at h
    · next hk => rw [if_pos hk]; obtain rfl := Option.some.inj h; rfl
    · cases h
  nxt := fun k p h _ => by
    rw [List.getElem?_replicate] at h ⊢
    split at h
    · next hk => rw [if_pos hk]; obtain rfl := Option.some.inj h; exact ⟨0, rfl, by simp, by simp⟩
    · cases h
theorem RefSt.at_ {s : Int} {st : Sts} {M T : List Int} (h : RefSt s st M T) {k : Nat} {p : Int × Int} (hp : st[k]? = some p) : ∃ t, T[k]? = some t ∧ (0 ≤ p.2 → t = s + p.2) ∧ (p.2 < 0 → t < s) := h.nxt k p hp List.not_mem_nil
theorem tick_next {s : Int} {p : Int × Int} {t : Int} (hb : -1 ≤ p.2) (hn : p.2 ≠ 0) (h1 : 0 ≤ p.2 → t = s + p.2) (h2 : p.2 < 0 → t < s) : (0 ≤ (tick1 p).2 → t = s + 1 + (tick1 p).2) ∧ ((tick1 p).2 < 0 → t < s + 1) := by
  unfold tick1
  split
  · next h => have := h1 (by omega); simp only; omega
  · next h => have := h2 (by omega); omega
theorem tick1_fst (p : Int × Int) : (tick1 p).1 = p.1 := by unfold tick1; split <;> rfl
/-- All have waited one slot; those who are due pick anew. -/
theorem RefSt.tick {s sm : Int} {st : Sts} {M T : List Int} (h : RefSt s st M T) (hok : StOk sm st) : RefMid (s + 1) (st.map tick1) M T (nowFrom 0 st) where
  lm := by rw [h.lm, List.length_map]
  lt := by rw [h.lt, List.length_map]
  met := fun k p hp => by
    rw [List.getElem?_map] at hp
    obtain ⟨q, hq, rfl⟩ := Option.map_eq_some_iff.1 hp
    rw [h.met k q hq, tick1_fst]
  nxt := fun k p hp hr => by
    rw [List.getElem?_map] at hp
    obtain ⟨q, hq, rfl⟩ := Option.map_eq_some_iff.1 hp
    obtain ⟨t, ht, h1, h2⟩ := h.at_ hq
    have hb := (hok.get hq).2.2.1
    have hn : q.2 ≠ 0 := fun e => hr (by have := nowFrom_mem 0 st k q hq e; simpa using this)
    exact ⟨t, ht, tick_next hb hn h1 h2⟩
theorem RefMid.pick {s : Int} {st : Sts} {M T : List Int} {R : List Int} {k : Nat} {p : Int × Int} (h : RefMid s st M T ((k : Int) :: R)) (hk : st[k]? = some p) (m d : Int) (hd : 0 ≤ d) : RefMid s (st.set k (m, d)) (M.set k m) (T.set k (s + d)) R where
  lm := by simp [h.lm]
  lt := by simp [h.lt]
  met := fun j q hq => by
    have hkl : k < M.length := by rw [h.lm]; exact (List.getElem?_eq_some_iff.1 hk).1
    by_cases e : k = j
    · subst e
      rw [List.getElem?_set_self (by rw [← h.lm]; exact hkl)] at hq
      obtain rfl := Option.some.inj hq
      rw [List.getElem?_set_self hkl]
    · rw [List.getElem?_set_ne e] at hq ⊢
      exact h.met j q hq
  nxt := fun j q hq hr => by
    have hkl : k < T.length := by rw [h.lt]; exact (List.getElem?_eq_some_iff.1 hk).1
    by_cases e : k = j
    · subst e
      rw [List.getElem?_set_self (by rw [← h.lt]; exact hkl)] at hq
      obtain rfl := Option.some.inj hq
      rw [List.getElem?_set_self hkl]
      exact ⟨s + d, rfl, fun _ => rfl, fun hx => by simp only at hx; omega⟩
    · rw [List.getElem?_set_ne e] at hq ⊢
      exact h.nxt j q hq (fun hm => by
        rcases List.mem_cons.1 hm with hm | hm
        · omega
        · exact hr hm)
/-- One is alone: it has sent. -/
theorem RefSt.one {s sm : Int} {st : Sts} {M T : List Int} {k : Nat} {p : Int × Int} (h : RefSt s st M T) (hok : StOk sm st) (hn : nowFrom 0 st = [(k : Int)]) (hk : st[k]? = some p) : RefSt (s + 1) ((st.map tick1).set k (p.1, -1)) M T := by
  have hp0 : p.2 = 0 := by
    obtain ⟨k', p', e, h1, h2⟩ := nowFrom_zero 0 st (k : Int) (by rw [hn]; exact List.mem_cons_self ..)
    obtain rfl : k = k' := by omega
    rw [hk] at h1
    obtain rfl := Option.some.inj h1
    exact h2
  have ht := h.tick hok
  rw [hn] at ht
  refine ⟨by simp [ht.lm], by simp [ht.lt], fun j q hq => ?_, fun j q hq _ => ?_⟩
  · by_cases e : k = j
    · subst e
      rw [List.getElem?_set_self (by rw [← ht.lm, h.lm]; exact (List.getElem?_eq_some_iff.1 hk).1)] at hq
      obtain rfl := Option.some.inj hq
      exact h.met k p hk
    · rw [List.getElem?_set_ne e] at hq
      exact ht.met j q hq
  · by_cases e : k = j
    · subst e
      rw [List.getElem?_set_self (by rw [← ht.lm, h.lm]; exact (List.getElem?_eq_some_iff.1 hk).1)] at hq
      obtain rfl := Option.some.inj hq
      obtain ⟨t, ht1, ht2, _⟩ := h.at_ hk
      have := ht2 (by omega)
      exact ⟨t, ht1, fun hx => by simp only at hx; omega, fun _ => by omega⟩
    · rw [List.getElem?_set_ne e] at hq
      exact ht.nxt j q hq (fun hm => by rcases List.mem_cons.1 hm with hm | hm; omega; cases hm)
theorem retryGo_len : ∀ (f : Nat) (n : Int) (st : Sts) (ps : List Int) (s : Int) (who slots : List Int), (retryGo n f st ps s who slots).1.length ≤ who.length + f ∧ (retryGo n f st ps s who slots).2.length ≤ slots.length + f
  | 0, _, _, _, _, who, slots => ⟨Nat.le_refl _, Nat.le_refl _⟩
  | f + 1, n, st, ps, s, who, slots => by
    unfold retryGo
    split
    · split
      · have := retryGo_len f n ((st.map tick1).set ((nowFrom 0 st).headD 0).toNat (metOf st ((nowFrom 0 st).headD 0), -1)) ps (s + 1) (who ++ [(nowFrom 0 st).headD 0]) (slots ++ [s])
        simp only [List.length_append, List.length_singleton] at this
        omega
      · split
        · exact ⟨Nat.le_add_right _ _, Nat.le_add_right _ _⟩
        · have := retryGo_len f n (pickAll (nowFrom 0 st) ps (st.map tick1)) (ps.drop (nowFrom 0 st).length) (s + 1) who slots
          omega
    · exact ⟨Nat.le_add_right _ _, Nat.le_add_right _ _⟩
theorem retryRun_len (n : Int) (ps : List Int) : (retryRun n ps).1.length ≤ 1001 ∧ (retryRun n ps).2.length ≤ 1001 := by
  have := retryGo_len 1001 n (List.replicate n.toNat (0, 0)) ps 0 [] []
  simpa [retryRun] using this
end Go.Proofs.YthnlpmjfibidcaaDoor
