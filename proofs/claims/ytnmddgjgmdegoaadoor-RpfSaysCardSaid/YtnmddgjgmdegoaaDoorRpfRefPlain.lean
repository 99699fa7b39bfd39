/- Plain: the reference's telling: a queue of those who pass it on. -/
import Derived.Test.YtnmddgjgmdegoaaDoorRpfLaws
namespace Go.Proofs.YtnmddgjgmdegoaaDoor
set_option linter.unusedVariables false

variable {n : Nat} {L : List Lnk} {o : Nat} {P Q : List Nat}
def outB (n : Nat) (L : List Lnk) (o p v : Nat) : Bool := decide (cst L p v < 1000) && decide (¬ (v : Int) = byOf n L o p)
def outsTo (n : Nat) (L : List Lnk) (o p k : Nat) : List Nat := (List.range k).filter (outB n L o p)
theorem outs_to (n : Nat) (L : List Lnk) (o p : Nat) : outs n L o p = outsTo n L o p n := by
  unfold outs nbrs outsTo
  rw [List.filter_filter]
  congr 1
  funext v
  unfold outB
  rw [Bool.and_comm]
theorem outsTo_succ (n : Nat) (L : List Lnk) (o p k : Nat) : outsTo n L o p (k + 1) = outsTo n L o p k ++ (if outB n L o p k = true then [k] else []) := by
  unfold outsTo
  rw [List.range_succ, List.filter_append]
  by_cases h : outB n L o p k = true
  · rw [if_pos h, List.filter_cons_of_pos h]; rfl
  · rw [if_neg h, List.filter_cons_of_neg h]; rfl
theorem outsTo_mem {p k v : Nat} : v ∈ outsTo n L o p k ↔ v < k ∧ outB n L o p v = true := by
  unfold outsTo; rw [List.mem_filter, List.mem_range]
def goodsTo (n : Nat) (L : List Lnk) (o p k : Nat) : List Nat := (outsTo n L o p k).filter fun v => good n L o (v, p)
theorem goodsTo_succ (n : Nat) (L : List Lnk) (o p k : Nat) : goodsTo n L o p (k + 1) = goodsTo n L o p k ++ (if outB n L o p k = true ∧ good n L o (k, p) = true then [k] else []) := by
  unfold goodsTo
  rw [outsTo_succ, List.filter_append]
  by_cases h : outB n L o p k = true
  · rw [if_pos h]
    by_cases g : good n L o (k, p) = true
    · rw [if_pos ⟨h, g⟩]; simp [g]
    · rw [if_neg fun e => g e.2]; simp [g]
  · rw [if_neg h, if_neg fun e => h e.1]; rfl
def goods (n : Nat) (L : List Lnk) (o p : Nat) : List Nat := goodsTo n L o p n
structure RInv (n : Nat) (L : List Lnk) (o : Nat) (P Q : List Nat) : Prop where
  eq : P ++ Q = o :: P.flatMap (goods n L o)
  nd : (P ++ Q).Nodup
theorem mem_goods {p v : Nat} : v ∈ goods n L o p ↔ v ∈ outs n L o p ∧ ¬ v = o ∧ byOf n L o v = (p : Int) := by
  unfold goods goodsTo
  rw [List.mem_filter, ← outs_to]
  unfold good
  simp
theorem goods_nodup (n : Nat) (L : List Lnk) (o p : Nat) : (goods n L o p).Nodup := by
  unfold goods goodsTo
  rw [← outs_to]
  exact (outs_nodup n L o p).filter _
theorem RInv.start (n : Nat) (L : List Lnk) (o : Nat) : RInv n L o [] [o] := ⟨by simp, by simp⟩
theorem RInv.step {p : Nat} (h : RInv n L o P (p :: Q)) : RInv n L o (P ++ [p]) (Q ++ goods n L o p) := by
  have hn := h.nd
  refine ⟨?_, ?_⟩
  · rw [List.flatMap_append, ← List.cons_append, ← h.eq]; simp
  · have e : P ++ [p] ++ (Q ++ goods n L o p) = (P ++ p :: Q) ++ goods n L o p := by simp
    rw [e, List.nodup_append]
    refine ⟨hn, goods_nodup n L o p, fun a ha b hb hab => ?_⟩
    subst hab
    obtain ⟨h1, h2, h3⟩ := mem_goods.1 hb
    rw [h.eq] at ha
    rcases List.mem_cons.1 ha with ha | ha
    · exact h2 ha
    · obtain ⟨q, hq, hx⟩ := List.mem_flatMap.1 ha
      obtain ⟨g1, g2, g3⟩ := mem_goods.1 hx
      have : q = p := by omega
      subst this
      rw [List.nodup_append] at hn
      exact hn.2.2 q hq q (List.mem_cons_self ..) rfl
theorem pass_flat : ∀ P : List Nat, ((P.flatMap (send n L o)).filter (good n L o)).map (·.1) = P.flatMap (goods n L o)
  | [] => rfl
  | p :: P => by
    rw [List.flatMap_cons, List.filter_append, List.map_append, pass_flat P, List.flatMap_cons]
    congr 1
    unfold goods goodsTo send
    rw [← outs_to, List.filter_map, List.map_map]
    have : ((fun x : Nat × Nat => x.1) ∘ fun v => (v, p)) = id := rfl
    rw [this, List.map_id]
    rfl
theorem RInv.done (h : RInv n L o P []) : FInv n L o (P.flatMap (send n L o)) [] := by
  have he := h.eq
  have hn := h.nd
  rw [List.append_nil] at he hn
  have hp : passers n L o (P.flatMap (send n L o)) = P := by
    unfold passers
    rw [pass_flat, ← he]
  refine ⟨by rw [hp, List.append_nil], by rw [hp]; exact hn⟩
theorem RInv.lt (h : RInv n L o P Q) (ho : o < n) : ∀ p ∈ P ++ Q, p < n := by
  intro p hp
  rw [h.eq] at hp
  rcases List.mem_cons.1 hp with rfl | hp
  · exact ho
  · obtain ⟨q, _, hx⟩ := List.mem_flatMap.1 hp
    exact (mem_outs.1 (mem_goods.1 hx).1).1.1
theorem RInv.few (h : RInv n L o P Q) (ho : o < n) : P.length + Q.length ≤ n := by
  rw [← List.length_append]
  exact nodup_len n _ h.nd (h.lt ho)
/-- What has come, when P have passed it on, and p to the first k. -/
def cpyP (n : Nat) (L : List Lnk) (o : Nat) (P : List Nat) (v : Nat) : Nat := P.countP fun p => decide (v ∈ outs n L o p)
def cpyK (n : Nat) (L : List Lnk) (o : Nat) (P : List Nat) (p k v : Nat) : Nat := cpyP n L o P v + (if v < k ∧ outB n L o p v = true then 1 else 0)
theorem cpyK_zero (P : List Nat) (p v : Nat) : cpyK n L o P p 0 v = cpyP n L o P v := by unfold cpyK; rw [if_neg (by omega), Nat.add_zero]
theorem cpyK_off {p k : Nat} (h : ¬ outB n L o p k = true) (v : Nat) : cpyK n L o P p (k + 1) v = cpyK n L o P p k v := by
  unfold cpyK
  by_cases e : v = k
  · subst e; rw [if_neg fun g => h g.2, if_neg fun g => h g.2]
  · by_cases g : v < k ∧ outB n L o p v = true
    · rw [if_pos g, if_pos ⟨by omega, g.2⟩]
    · rw [if_neg g, if_neg fun g' => g ⟨by omega, g'.2⟩]
theorem cpyK_on {p k : Nat} (h : outB n L o p k = true) (v : Nat) : (if v = k then cpyK n L o P p k k + 1 else cpyK n L o P p k v) = cpyK n L o P p (k + 1) v := by
  unfold cpyK
  by_cases e : v = k
  · subst e; rw [if_pos rfl, if_neg (by omega), if_pos ⟨by omega, h⟩]
  · rw [if_neg e]
    by_cases g : v < k ∧ outB n L o p v = true
    · rw [if_pos g, if_pos ⟨by omega, g.2⟩]
    · rw [if_neg g, if_neg fun g' => g ⟨by omega, g'.2⟩]
theorem cpyK_end {p v : Nat} (hv : v < n) : cpyK n L o P p n v = cpyP n L o (P ++ [p]) v := by
  unfold cpyK cpyP
  rw [List.countP_append]
  by_cases h : v ∈ outs n L o p
  · rw [outs_to] at h
    rw [if_pos (outsTo_mem.1 h)]
    rw [← outs_to] at h
    simp [h]
  · rw [if_neg fun g => h (by rw [outs_to]; exact outsTo_mem.2 g)]
    simp [h]
def sntP (n : Nat) (L : List Lnk) (o : Nat) (P : List Nat) : Nat := (P.flatMap (send n L o)).length
theorem sntP_next (P : List Nat) (p : Nat) : sntP n L o (P ++ [p]) = sntP n L o P + (outsTo n L o p n).length := by
  unfold sntP
  rw [List.flatMap_append, List.length_append, ← outs_to]
  simp [send]
theorem cpyP_le (P : List Nat) (v : Nat) : cpyP n L o P v ≤ P.length := List.countP_le_length
theorem sntP_le (P : List Nat) : sntP n L o P ≤ P.length * n := flat_len_le P
theorem RInv.counts (hok : VOk n L) (ho : o < n) (h : RInv n L o P []) : (∀ v, cpyP n L o P v = copies n L o v) ∧ sntP n L o P = sentOf n L o := by
  obtain ⟨h1, h2⟩ := h.done.counts hok ho
  refine ⟨fun v => ?_, h2⟩
  rw [← h1 v, flat_count]; rfl
end Go.Proofs.YtnmddgjgmdegoaaDoor
