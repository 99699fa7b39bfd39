/- The reference's own tables: how much of each queue has been served, and what each has to spend. -/
import Derived.Test.YtommedhaaojgiaaDoorDrrPlain
namespace Go.Proofs.YtommedhaaojgiaaDoor
set_option linter.unusedVariables false

def atL (qs : List (List Int)) (Q r a : Nat) : List Int := qs.mapIdx fun i q => ((drrSrv qs Q i (if i < a then r + 1 else r) : Nat) : Int)
theorem atL_len (qs : List (List Int)) (Q r a : Nat) : (atL qs Q r a).length = qs.length := by simp [atL]
theorem atL_get {qs : List (List Int)} {Q r a i : Nat} {q : List Int} (hq : qs[i]? = some q) : (atL qs Q r a)[i]? = some (((drrSrv qs Q i (if i < a then r + 1 else r) : Nat) : Int)) := by
  simp [atL, List.getElem?_mapIdx, hq]
theorem atL_wrap (qs : List (List Int)) (Q r : Nat) : atL qs Q r qs.length = atL qs Q (r + 1) 0 := by
  refine List.ext_getElem? fun i => ?_
  cases hx : qs[i]? with
  | none => simp [atL, List.getElem?_mapIdx, hx]
  | some x =>
    have hi : i < qs.length := (List.getElem?_eq_some_iff.1 hx).1
    rw [atL_get hx, atL_get hx, if_pos hi, if_neg (by omega)]
theorem atL_turn {qs : List (List Int)} {Q r a : Nat} {q : List Int} (hq : qs[a]? = some q) : (atL qs Q r a).set a ((drrSrv qs Q a (r + 1) : Nat) : Int) = atL qs Q r (a + 1) := by
  have ha : a < qs.length := (List.getElem?_eq_some_iff.1 hq).1
  refine List.ext_getElem? fun i => ?_
  by_cases hi : i = a
  · subst hi
    rw [List.getElem?_set_self (by rw [atL_len]; exact ha), atL_get hq, if_pos (by omega)]
  · rw [List.getElem?_set_ne (by omega)]
    cases hy : qs[i]? with
    | none => simp [atL, List.getElem?_mapIdx, hy]
    | some y =>
      rw [atL_get hy, atL_get hy]
      by_cases h1 : i < a
      · rw [if_pos h1, if_pos (by omega)]
      · rw [if_neg h1, if_neg (by omega)]
theorem atL_zero {qs : List (List Int)} (h : QsOk qs) (Q : Nat) : atL qs Q 0 0 = List.replicate qs.length 0 := by
  refine List.ext_getElem? fun i => ?_
  cases hx : qs[i]? with
  | none => simp [atL, List.getElem?_mapIdx, hx]
            exact List.getElem?_eq_none_iff.1 hx
  | some x =>
    have hi : i < qs.length := (List.getElem?_eq_some_iff.1 hx).1
    rw [atL_get hx, if_neg (by omega), List.getElem?_replicate, if_pos hi]
    have := (drrServed h Q).zero i
    rw [this]; rfl
/-- What each has to spend: told where something is left alone. -/
structure CredIs (qs : List (List Int)) (Q r a : Nat) (cs : List Int) : Prop where
  len : cs.length = qs.length
  bd : ∀ c ∈ cs, -200 ≤ c ∧ c ≤ 4000
  val : ∀ i q, qs[i]? = some q → drrSrv qs Q i (if i < a then r + 1 else r) < q.length → cs[i]? = some (dOf qs Q i (if i < a then r + 1 else r))
theorem CredIs.zero {qs : List (List Int)} (h : QsOk qs) (Q : Nat) : CredIs qs Q 0 0 (List.replicate qs.length 0) := by
  refine ⟨by simp, fun c hc => by rw [List.mem_replicate] at hc; omega, fun i q hq _ => ?_⟩
  rw [← defAt_zero h Q]
  exact defAt_get hq
theorem CredIs.wrap {qs : List (List Int)} {Q r : Nat} {cs : List Int} (h : CredIs qs Q r qs.length cs) : CredIs qs Q (r + 1) 0 cs := by
  refine ⟨h.len, h.bd, fun i q hq hl => ?_⟩
  have hi := (List.getElem?_eq_some_iff.1 hq).1
  have := h.val i q hq
  rw [if_pos hi] at this
  rw [if_neg (by omega)] at hl ⊢
  exact this hl
/-- A turn: what stands at its place is told if something is left. -/
theorem CredIs.turn {qs : List (List Int)} {Q r a : Nat} {cs : List Int} {q : List Int} {c : Int} (h : CredIs qs Q r a cs) (hq : qs[a]? = some q) (hb : -200 ≤ c ∧ c ≤ 4000) (hc : drrSrv qs Q a (r + 1) < q.length → c = dOf qs Q a (r + 1)) : CredIs qs Q r (a + 1) (cs.set a c) := by
  have ha := (List.getElem?_eq_some_iff.1 hq).1
  refine ⟨by rw [List.length_set]; exact h.len, ?_, fun i q' hq' hl => ?_⟩
  · intro y hy
    rcases List.mem_or_eq_of_mem_set hy with h1 | h1
    · exact h.bd y h1
    · rw [h1]; exact hb
  · by_cases hi : i = a
    · subst hi
      rw [hq] at hq'; cases hq'
      rw [if_pos (by omega)] at hl ⊢
      rw [List.getElem?_set_self (by rw [h.len]; exact ha), hc hl]
    · rw [List.getElem?_set_ne (by omega)]
      have h1 := h.val i q' hq'
      by_cases h2 : i < a
      · rw [if_pos h2] at h1
        rw [if_pos (by omega)] at hl ⊢
        exact h1 hl
      · rw [if_neg h2] at h1
        rw [if_neg (by omega)] at hl ⊢
        exact h1 hl
/-- A queue that has ended: its turn does nothing. -/
theorem at_idle {qs : List (List Int)} (h : QsOk qs) {Q r a : Nat} {q : List Int} {cs : List Int} (hq : qs[a]? = some q) (hz : q.length ≤ drrSrv qs Q a r) (hc : CredIs qs Q r a cs) :
    atL qs Q r (a + 1) = atL qs Q r a ∧ CredIs qs Q r (a + 1) cs := by
  have hg : qs.getD a [] = q := by rw [List.getD_eq_getElem?_getD, hq]; rfl
  have h0 := drrSrv_le qs Q a r
  have h1 := drrSrv_le qs Q a (r + 1)
  have h2 := (drrServed h Q).mono a r
  rw [hg] at h0 h1
  have e1 : drrSrv qs Q a (r + 1) = drrSrv qs Q a r := by omega
  refine ⟨?_, hc.len, hc.bd, fun i q' hq' hl => ?_⟩
  · rw [← atL_turn hq, e1]
    have hx := atL_get (Q := Q) (r := r) (a := a) hq
    rw [if_neg (by omega)] at hx
    refine List.ext_getElem? fun i => ?_
    by_cases hi : i = a
    · subst hi; rw [List.getElem?_set_self (List.getElem?_eq_some_iff.1 hx).1, hx]
    · rw [List.getElem?_set_ne (by omega)]
  · by_cases hi : i = a
    · subst hi
      rw [hq] at hq'; cases hq'
      rw [if_pos (by omega)] at hl
      omega
    · have h3 := hc.val i q' hq'
      by_cases h4 : i < a
      · rw [if_pos h4] at h3
        rw [if_pos (by omega)] at hl ⊢
        exact h3 hl
      · rw [if_neg h4] at h3
        rw [if_neg (by omega)] at hl ⊢
        exact h3 hl
end Go.Proofs.YtommedhaaojgiaaDoor
