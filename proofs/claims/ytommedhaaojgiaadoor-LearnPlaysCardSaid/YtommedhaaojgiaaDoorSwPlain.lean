/- What the reference's switch answers, in plain lists: who is kept, who was heard, by which ports it goes out. -/
import Derived.Test.YtommedhaaojgiaaDoorLearnHeard
import Derived.Test.YtommedhaaojgiaaDoorForgetPlain
namespace Go.Proofs.YtommedhaaojgiaaDoor
set_option linter.unusedVariables false

def keepT (T : Tab) (a : Int) : Tab := T.filter fun x => !decide (x.1 = a)
theorem keepT_yes {T : Tab} {k : Nat} {x : Int × Int} {a : Int} (hx : T[k]? = some x) (h : ¬ x.1 = a) : keepT (T.take (k + 1)) a = keepT (T.take k) a ++ [x] := by
  unfold keepT
  rw [List.take_add_one, hx, List.filter_append]
  simp [h]
theorem keepT_no {T : Tab} {k : Nat} {x : Int × Int} {a : Int} (hx : T[k]? = some x) (h : x.1 = a) : keepT (T.take (k + 1)) a = keepT (T.take k) a := by
  unfold keepT
  rw [List.take_add_one, hx, List.filter_append]
  simp [h]
theorem keepT_len (T : Tab) (a : Int) : (keepT T a).length ≤ T.length := List.length_filter_le _ _
theorem keepT_take_len (T : Tab) (a : Int) (k : Nat) : (keepT (T.take k) a).length ≤ T.length := Nat.le_trans (keepT_len _ _) (by rw [List.length_take]; omega)
def heardF (T : Tab) (a p : Int) : Tab := if 8 < (keepT T a ++ [(a, p)]).length then (keepT T a ++ [(a, p)]).drop 1 else keepT T a ++ [(a, p)]
theorem heardF_eq {T : Tab} (h : Good T) (a p : Int) : heardF T a p = heardT T a p := by
  unfold heardF heardT
  rw [gone_filter h.nd]
  rfl
def outP (T : Tab) (t p q : Int) : Bool := decide (¬ q = p) && (decide (tfind T t = none) || decide (look T t = q))
def outR (T : Tab) (t p : Int) (k : Nat) : List Int := (([0, 1, 2, 3] : List Int).take k).filter fun q => outP T t p q
theorem outR_yes {T : Tab} {t p : Int} {k : Nat} (hk : k < 4) (h : outP T t p (k : Int) = true) : outR T t p (k + 1) = outR T t p k ++ [(k : Int)] := by
  unfold outR
  rw [List.take_add_one, four_get hk, List.filter_append]
  simp [h]
theorem outR_no {T : Tab} {t p : Int} {k : Nat} (hk : k < 4) (h : outP T t p (k : Int) = false) : outR T t p (k + 1) = outR T t p k := by
  unfold outR
  rw [List.take_add_one, four_get hk, List.filter_append]
  simp [h]
theorem outR_len (T : Tab) (t p : Int) (k : Nat) : (outR T t p k).length ≤ 4 := by
  unfold outR
  refine Nat.le_trans (List.length_filter_le _ _) ?_
  rw [List.length_take]; simp; omega
theorem outR_eq {T : Tab} (h : Good T) {t p : Int} (hp : 0 ≤ p ∧ p ≤ 3) : outR T t p 4 = outs T t p := by
  unfold outR outs
  cases hf : tfind T t with
  | none =>
    have : (fun q => outP T t p q) = fun x => !decide (x = p) := by
      funext q; unfold outP; rw [hf]; simp
    rw [this]; rfl
  | some k =>
    obtain ⟨q, hq, hl, -⟩ := tfind_some hf
    have hb := (h.bd _ (List.mem_iff_getElem?.2 ⟨k, hq⟩)).2
    simp only at hb
    have : (fun r => outP T t p r) = fun r => decide (¬ r = p) && decide (q = r) := by
      funext r; unfold outP; rw [hf, hl]; simp
    rw [this, hl]
    show List.filter _ _ = if q = p then [] else [q]
    clear this
    have h1 : q = 0 ∨ q = 1 ∨ q = 2 ∨ q = 3 := by omega
    have h2 : p = 0 ∨ p = 1 ∨ p = 2 ∨ p = 3 := by omega
    rcases h1 with rfl | rfl | rfl | rfl <;> rcases h2 with rfl | rfl | rfl | rfl <;> decide
theorem look_some {T : Tab} {a : Int} {k : Nat} (h : tfind T a = some k) : (T.map (·.2))[k]? = some (look T a) := by
  obtain ⟨p, h1, h2, -⟩ := tfind_some h
  rw [List.getElem?_map, h1, h2]; rfl
theorem look_none {T : Tab} {a : Int} (h : tfind T a = none) : look T a = -1 := by unfold look; rw [h]
/-- Who is kept where a port is down. -/
theorem downT_take_len (T : Tab) (p : Int) (k : Nat) : (downT (T.take k) p).length ≤ T.length := Nat.le_trans (downT_len _ _) (by rw [List.length_take]; omega)
end Go.Proofs.YtommedhaaojgiaaDoor
