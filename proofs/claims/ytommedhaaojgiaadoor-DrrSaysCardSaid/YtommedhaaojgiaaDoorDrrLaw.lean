/- Deficit round robin: the laws, in plain lists. -/
import Derived.Test.YtommedhaaojgiaaDoorDrrPlain
namespace Go.Proofs.YtommedhaaojgiaaDoor
set_option linter.unusedVariables false

theorem drr_once {qs : List (List Int)} (h : QsOk qs) {Q i : Nat} (hQ : 1 ≤ Q) (hi : i < qs.length) : (drrOut qs Q).count (i : Int) = (qs.getD i []).length := by
  unfold drrOut
  rw [turns_count (drrServed h Q) hi, drrSrv_all h hQ (by omega)]
theorem drr_total {qs : List (List Int)} (h : QsOk qs) {Q : Nat} (hQ : 1 ≤ Q) : (drrOut qs Q).length = drrTot qs := by
  unfold drrOut drrTot
  rw [turns_len (drrServed h Q)]
  exact psum_congr fun i _ => drrSrv_all h hQ (by omega)
theorem drrTot_le {qs : List (List Int)} (h : QsOk qs) : drrTot qs ≤ 40 := by
  have h1 := psum_le (fun i => (qs.getD i []).length) 8 (fun i => (h.at i).1) qs.length
  have := h.few
  unfold drrTot; omega
theorem drrOut_mem {qs : List (List Int)} {Q : Nat} {x : Int} (hx : x ∈ drrOut qs Q) : ∃ i, i < qs.length ∧ x = (i : Int) := turns_mem hx

/-- At each place: who is served still has something. -/
theorem drr_place {qs : List (List Int)} (h : QsOk qs) {Q t : Nat} (hQ : 1 ≤ Q) {i : Nat} (hi : i < qs.length) (ht : (drrOut qs Q)[t]? = some (i : Int)) : ((drrOut qs Q).take t).count (i : Int) < (qs.getD i []).length := by
  have h1 := drr_once h hQ hi
  have h2 : ((drrOut qs Q).take (t + 1)).count (i : Int) ≤ (drrOut qs Q).count (i : Int) := (List.take_sublist _ _).count_le _
  rw [List.take_add_one, ht, List.count_append] at h2
  simp at h2
  omega

/-- Shreedhar and Varghese. -/
theorem drr_fair {qs : List (List Int)} (h : QsOk qs) {Q t a b : Nat} {most : Int} (hQ : 1 ≤ Q) (ha : a < qs.length) (hb : b < qs.length) (hmost : ∀ q ∈ qs, ∀ x ∈ q, x ≤ most) (hm0 : 0 ≤ most)
    (h1 : ((drrOut qs Q).take t).count (a : Int) < (qs.getD a []).length) (h2 : ((drrOut qs Q).take t).count (b : Int) < (qs.getD b []).length) :
    ((qs.getD a []).take (((drrOut qs Q).take t).count (a : Int))).sum - ((qs.getD b []).take (((drrOut qs Q).take t).count (b : Int))).sum ≤ (Q : Int) + 2 * most := by
  rcases Nat.lt_or_ge t (drrOut qs Q).length with ht | ht
  · have hsv := drrServed h Q
    obtain ⟨r, i, k, hr, hi, hk, hp, _⟩ := turns_at (drrSrv qs Q) qs.length (161 + qs.length) t ht
    have hp2 : (drrOut qs Q).take t = turns (drrSrv qs Q) qs.length r ++ part (amt (drrSrv qs Q) r) i ++ List.replicate k (i : Int) := hp
    have ca := place_count hsv (n := qs.length) (r := r) (i := i) (k := k) hi ha
    have cb := place_count hsv (n := qs.length) (r := r) (i := i) (k := k) hi hb
    rw [← hp2] at ca cb
    have ma := hsv.mono a r
    have mb := hsv.mono b r
    have mi := hsv.mono i r
    unfold amt at hk
    -- of a at most (r + 1) Q
    have hca : ((drrOut qs Q).take t).count (a : Int) ≤ drrSrv qs Q a (r + 1) := by
      rw [ca]
      by_cases e : a = i
      · subst e; rw [if_neg (by omega), if_pos rfl]; omega
      · rw [if_neg e]
        by_cases e2 : a < i
        · rw [if_pos e2]; omega
        · rw [if_neg e2]; omega
    have hua := sum_upto (h.nn a) (c := (((r + 1) * Q : Nat) : Int)) (by omega) hca
    -- of b more than r Q - most
    have hcb : drrSrv qs Q b r ≤ ((drrOut qs Q).take t).count (b : Int) := by
      rw [cb]
      by_cases e2 : b < i
      · rw [if_pos e2]; omega
      · rw [if_neg e2]; omega
    have hlb : drrSrv qs Q b r < (qs.getD b []).length := by omega
    have hpb := sum_past (h.nn b) (c := ((r * Q : Nat) : Int)) hlb
    obtain ⟨x, hx⟩ : ∃ x, (qs.getD b [])[drrSrv qs Q b r]? = some x := ⟨_, List.getElem?_eq_getElem hlb⟩
    have hx2 : (qs.getD b [])[upto (qs.getD b []) ((r * Q : Nat) : Int)]? = some x := hx
    rw [take_sum_succ hx2] at hpb
    have hxm : x ≤ most := by
      have hgb : qs.getD b [] ∈ qs := by
        rw [List.getD_eq_getElem?_getD, List.getElem?_eq_getElem hb]
        exact List.getElem_mem hb
      exact hmost _ hgb x (List.mem_iff_getElem?.2 ⟨_, hx⟩)
    have hmb := take_sum_mono (h.nn b) hcb
    have hmb2 : ((qs.getD b []).take (upto (qs.getD b []) ((r * Q : Nat) : Int))).sum ≤ ((qs.getD b []).take (((drrOut qs Q).take t).count (b : Int))).sum := hmb
    have hrq : (((r + 1) * Q : Nat) : Int) = ((r * Q : Nat) : Int) + (Q : Int) := by rw [Nat.add_mul]; omega
    omega
  · rw [List.take_of_length_le ht, drr_once h hQ ha] at h1
    omega

/-- Where the quantum is enough for anything: the first thing of a queue. -/
theorem drr_soon {qs : List (List Int)} (h : QsOk qs) {Q i : Nat} (hQ : 1 ≤ Q) (hi : i < qs.length) (hle : ∀ q ∈ qs, ∀ x ∈ q, x ≤ (Q : Int)) (hne : 0 < (qs.getD i []).length) :
    ∃ A, A < (drrOut qs Q).length ∧ (drrOut qs Q)[A]? = some (i : Int) ∧ ¬ (i : Int) ∈ (drrOut qs Q).take A ∧
      ∀ k, k < qs.length → (i ≤ k → ((drrOut qs Q).take A).count (k : Int) = 0) ∧ ((drrOut qs Q).take A).count (k : Int) ≤ (qs.getD k []).length ∧ ((qs.getD k []).take (((drrOut qs Q).take A).count (k : Int))).sum ≤ (Q : Int) := by
  have hsv := drrServed h Q
  have hamt : ∀ k, amt (drrSrv qs Q) 0 k = upto (qs.getD k []) (Q : Int) := fun k => by
    have h1 := hsv.zero k
    have h2 : drrSrv qs Q k (0 + 1) = upto (qs.getD k []) (Q : Int) := by unfold drrSrv; simp
    unfold amt; rw [h1, h2]; rfl
  have h0 : 0 < amt (drrSrv qs Q) 0 i := by
    rw [hamt]
    obtain ⟨x, hx⟩ : ∃ x, (qs.getD i [])[0]? = some x := ⟨_, List.getElem?_eq_getElem hne⟩
    have hg : qs.getD i [] ∈ qs := by
      rw [List.getD_eq_getElem?_getD, List.getElem?_eq_getElem hi]
      exact List.getElem_mem hi
    have hxq := hle _ hg x (List.mem_iff_getElem?.2 ⟨0, hx⟩)
    refine (upto_lt _ _ 0 (h.nn i)).2 ⟨hne, ?_⟩
    rw [take_sum_succ hx]; simpa using hxq
  obtain ⟨e1, e2⟩ := turns_first (drrSrv qs Q) (n := qs.length) (160 + qs.length) hi h0
  have hD : drrOut qs Q = turns (drrSrv qs Q) qs.length (160 + qs.length + 1) := by unfold drrOut; rw [show 161 + qs.length = 160 + qs.length + 1 by omega]
  rw [← hD] at e1 e2
  refine ⟨psum (amt (drrSrv qs Q) 0) i, (List.getElem?_eq_some_iff.1 e2).1, e2, by rw [e1]; exact part_notMem _ _, ?_⟩
  intro k hk
  rw [e1, part_count]
  by_cases hki : k < i
  · rw [if_pos hki, hamt]
    refine ⟨fun h => by omega, upto_le _ _, sum_upto (h.nn k) (by omega) (Nat.le_refl _)⟩
  · rw [if_neg hki]
    exact ⟨fun _ => rfl, Nat.zero_le _, by simp⟩
end Go.Proofs.YtommedhaaojgiaaDoor
