/- Plain: queues of things of one size: deficit round robin, the rounds and the ring serve one of each in turn. -/
import Derived.Test.YtpfpaheafpibiaaRndRun
import Derived.Test.YtpfpaheafpibiaaRingPlain
namespace Go.Proofs.Ytpfpaheafpibiaa
set_option linter.unusedVariables false

/-- One of each in turn. -/
def oneSrv (ms : List Nat) (i r : Nat) : Nat := min (ms.getD i 0) r
theorem oneServed (ms : List Nat) : Served (oneSrv ms) := ⟨fun i => by simp [oneSrv], fun i r => by unfold oneSrv; omega⟩
def oneOut (ms : List Nat) : List Int := turns (oneSrv ms) ms.length 8
theorem turns_congr {f g : Nat → Nat → Nat} {n : Nat} (h : ∀ i r, i < n → f i r = g i r) : ∀ R, turns f n R = turns g n R
  | 0 => rfl
  | R + 1 => by
    rw [turns, turns, turns_congr h R]
    congr 1
    exact part_congr fun i hi => by unfold amt; rw [h i _ hi, h i _ hi]
theorem one_more {ms : List Nat} (h : ∀ m ∈ ms, m ≤ 8) (m : Nat) : turns (oneSrv ms) ms.length (8 + m) = oneOut ms :=
  turns_stop (oneServed ms) m fun i hi => by
    unfold oneSrv
    have := h (ms.getD i 0) (by rw [List.getD_eq_getElem?_getD, List.getElem?_eq_getElem hi]; exact List.getElem_mem hi)
    omega
/-- The queues. -/
def eqQ (s : Nat) (ms : List Nat) : List (List Int) := ms.map fun m => List.replicate m (s : Int)
theorem eqQ_ok {s : Nat} {ms : List Nat} (hs : 1 ≤ s) (hs2 : s ≤ 20) (hl : ms.length ≤ 5) (h : ∀ m ∈ ms, m ≤ 8) : QsOk (eqQ s ms) := by
  refine ⟨by simpa [eqQ] using hl, fun q hq => ?_⟩
  obtain ⟨m, hm, rfl⟩ := List.mem_map.1 hq
  refine ⟨by simpa using h m hm, fun x hx => ?_⟩
  have := List.eq_of_mem_replicate hx
  omega
theorem eqQ_getD (s : Nat) (ms : List Nat) (i : Nat) : (eqQ s ms).getD i [] = List.replicate (ms.getD i 0) (s : Int) := by
  rw [List.getD_eq_getElem?_getD, List.getD_eq_getElem?_getD]
  unfold eqQ
  rw [List.getElem?_map]
  cases ms[i]? <;> simp
theorem upto_same {s : Nat} (hs : 1 ≤ s) : ∀ (m r : Nat), upto (List.replicate m (s : Int)) ((r * s : Nat) : Int) = min m r
  | 0, r => by simp [upto]
  | m + 1, 0 => by rw [List.replicate_succ, upto, if_neg (by simp; omega)]; omega
  | m + 1, r + 1 => by
    rw [List.replicate_succ, upto, if_pos (by rw [Nat.add_mul]; omega)]
    have h1 : (((r + 1) * s : Nat) : Int) - (s : Int) = ((r * s : Nat) : Int) := by rw [Nat.add_mul]; omega
    rw [h1, upto_same hs m r]; omega
theorem drr_one {s : Nat} {ms : List Nat} (hs : 1 ≤ s) (hs2 : s ≤ 20) (hl : ms.length ≤ 5) (h : ∀ m ∈ ms, m ≤ 8) : drrOut (eqQ s ms) s = oneOut ms := by
  unfold drrOut
  have e : (eqQ s ms).length = ms.length := by simp [eqQ]
  rw [e, turns_congr (g := oneSrv ms) (fun i r _ => by unfold drrSrv oneSrv; rw [eqQ_getD, upto_same hs])]
  rw [show 161 + ms.length = 8 + (153 + ms.length) by omega]
  exact one_more h _
theorem ringOut_one {ms : List Nat} (h : ∀ m ∈ ms, m ≤ 8) : ringOut (ms.map fun (m : Nat) => (m : Int)) 1 = oneOut ms := by
  unfold ringOut
  rw [List.length_map, turns_congr (g := oneSrv ms) (fun i r hi => by
    unfold ringSrv oneSrv wOf
    rw [List.getD_eq_getElem?_getD, List.getD_eq_getElem?_getD, List.getElem?_map, List.getElem?_eq_getElem hi]
    simp)]
  rw [show 21 + ms.length = 8 + (13 + ms.length) by omega]
  exact one_more h _

/-- The thing of queue i in round r, if there is one. -/
def cellI (s : Nat) (ms : List Nat) (r i : Nat) : List Itm := if r < ms.getD i 0 then [(i, r, (r + 1) * s, s)] else []
def byRound (s : Nat) (ms : List Nat) (R : Nat) : List Itm := (List.range R).flatMap fun r => (List.range ms.length).flatMap (cellI s ms r)
theorem flatMap_swap {α β γ : Type} (f : α → β → List γ) (b : List β) : ∀ a : List α, (a.flatMap fun x => b.flatMap (f x)).Perm (b.flatMap fun y => a.flatMap fun x => f x y)
  | [] => by
    have : (b.flatMap fun y => ([] : List α).flatMap fun x => f x y) = [] := by induction b with | nil => rfl | cons y b ih => simp
    rw [this]; exact List.Perm.refl _
  | x :: a => by
    rw [List.flatMap_cons]
    have ih := flatMap_swap f b a
    have key : ∀ (l : List β) (g h : β → List γ), (l.flatMap g ++ l.flatMap h).Perm (l.flatMap fun y => g y ++ h y) := by
      intro l g h
      induction l with
      | nil => exact List.Perm.refl _
      | cons y l ih =>
        simp only [List.flatMap_cons]
        have e : g y ++ l.flatMap g ++ (h y ++ l.flatMap h) = g y ++ (l.flatMap g ++ (h y ++ l.flatMap h)) := by simp
        have e2 : g y ++ h y ++ l.flatMap (fun y => g y ++ h y) = g y ++ (h y ++ l.flatMap (fun y => g y ++ h y)) := by simp
        rw [e, e2]
        refine List.Perm.append_left _ ?_
        have p1 : (l.flatMap g ++ (h y ++ l.flatMap h)).Perm (h y ++ (l.flatMap g ++ l.flatMap h)) := by
          rw [← List.append_assoc, ← List.append_assoc]; exact List.perm_append_comm.append_right _
        exact p1.trans (ih.append_left _)
    refine (ih.append_left _).trans ?_
    refine (key b (f x) _).trans ?_
    simp only [List.flatMap_cons]
    exact List.Perm.refl _
theorem cells_of {s : Nat} {ms : List Nat} (i : Nat) : ∀ R, ms.getD i 0 ≤ R → ((List.range R).flatMap fun r => cellI s ms r i) = rawQ i (List.replicate (ms.getD i 0) s) := by
  intro R hR
  have key : ∀ k, ((List.range k).flatMap fun r => cellI s ms r i) = (List.range (min k (ms.getD i 0))).map (fun r => (i, r, (r + 1) * s, s)) := by
    intro k
    induction k with
    | zero => simp
    | succ k ih =>
      rw [List.range_succ, List.flatMap_append, ih]
      unfold cellI
      by_cases h : k < ms.getD i 0
      · rw [show min (k + 1) (ms.getD i 0) = k + 1 by omega, show min k (ms.getD i 0) = k by omega, List.range_succ, List.map_append]
        simp only [List.flatMap_cons, List.flatMap_nil, List.append_nil, List.map_cons, List.map_nil]
        rw [if_pos h]
      · rw [show min (k + 1) (ms.getD i 0) = min k (ms.getD i 0) by omega]
        simp only [List.flatMap_cons, List.flatMap_nil, List.append_nil]
        rw [if_neg h, List.append_nil]
  rw [key R, show min R (ms.getD i 0) = ms.getD i 0 by omega]
  unfold rawQ
  rw [List.length_replicate]
  refine List.map_congr_left fun r hr => ?_
  have hr := List.mem_range.1 hr
  unfold itAt
  rw [List.take_replicate, show min (r + 1) (ms.getD i 0) = r + 1 by omega, List.sum_replicate_nat, List.getD_eq_getElem?_getD, List.getElem?_replicate, if_pos hr]; rfl
theorem byRound_perm {s : Nat} {ms : List Nat} (h : ∀ m ∈ ms, m ≤ 8) : (byRound s ms 8).Perm (raw (nsOf (eqQ s ms))) := by
  refine (flatMap_swap (cellI s ms) (List.range ms.length) (List.range 8)).trans ?_
  unfold raw rawTo
  have e : (nsOf (eqQ s ms)).length = ms.length := by simp [nsOf, eqQ]
  rw [e]
  have e2 : ∀ l : List Nat, (∀ i ∈ l, i < ms.length) → (l.flatMap fun y => (List.range 8).flatMap fun x => cellI s ms x y) = l.flatMap fun q => rawQ q ((nsOf (eqQ s ms)).getD q []) := by
    intro l hl
    induction l with
    | nil => rfl
    | cons i l ih =>
      have hi := hl i (by simp)
      rw [List.flatMap_cons, List.flatMap_cons, ih fun j hj => hl j (by simp [hj]), cells_of i 8 (h _ (by rw [List.getD_eq_getElem?_getD, List.getElem?_eq_getElem hi]; exact List.getElem_mem hi))]
      congr 2
      simp [nsOf, eqQ, List.getD_eq_getElem?_getD, hi]
  rw [e2 _ fun i hi => List.mem_range.1 hi]
theorem mem_cellI {s : Nat} {ms : List Nat} {r i : Nat} {x : Itm} (h : x ∈ cellI s ms r i) : x.1 = i ∧ x.2.2.1 = (r + 1) * s := by
  unfold cellI at h
  split at h
  · rw [List.mem_singleton.1 h]; exact ⟨rfl, rfl⟩
  · simp at h
theorem byRound_srt {s : Nat} (hs : 1 ≤ s) (ms : List Nat) : ∀ R, Srt (byRound s ms R)
  | 0 => by simp [byRound, Srt]
  | R + 1 => by
    have e : byRound s ms (R + 1) = byRound s ms R ++ (List.range ms.length).flatMap (cellI s ms R) := by
      unfold byRound; rw [List.range_succ, List.flatMap_append]; simp
    rw [e]
    refine Srt.app.2 ⟨byRound_srt hs ms R, ?_, fun x hx y hy => ?_⟩
    · have key : ∀ k, Srt ((List.range k).flatMap (cellI s ms R)) := by
        intro k
        induction k with
        | zero => simp [Srt]
        | succ k ih =>
          rw [List.range_succ, List.flatMap_append]
          refine Srt.app.2 ⟨ih, ?_, fun x hx y hy => ?_⟩
          · simp only [List.flatMap_cons, List.flatMap_nil, List.append_nil]
            unfold cellI Srt; split <;> simp
          · obtain ⟨i, hi, hx⟩ := List.mem_flatMap.1 hx
            have hi := List.mem_range.1 hi
            simp only [List.flatMap_cons, List.flatMap_nil, List.append_nil] at hy
            have h1 := mem_cellI hx; have h2 := mem_cellI hy
            unfold leI ltI; omega
      exact key _
    · obtain ⟨r, hr, hx⟩ := List.mem_flatMap.1 hx
      obtain ⟨i, _, hx⟩ := List.mem_flatMap.1 hx
      obtain ⟨j, _, hy⟩ := List.mem_flatMap.1 hy
      have hr := List.mem_range.1 hr
      have h1 := mem_cellI hx; have h2 := mem_cellI hy
      have h3 : (r + 1) * s ≤ R * s := Nat.mul_le_mul_right s hr
      rw [Nat.add_mul] at h2
      unfold leI ltI; omega
theorem ord_byRound (s : Nat) (ms : List Nat) : ∀ R, ordOf (byRound s ms R) = turns (oneSrv ms) ms.length R
  | 0 => by simp [byRound, ordOf, turns]
  | R + 1 => by
    have e : byRound s ms (R + 1) = byRound s ms R ++ (List.range ms.length).flatMap (cellI s ms R) := by
      unfold byRound; rw [List.range_succ, List.flatMap_append]; simp
    have ih := ord_byRound s ms R
    unfold ordOf at ih ⊢
    rw [e, List.map_append, ih, turns]
    congr 1
    have key : ∀ k, ((List.range k).flatMap (cellI s ms R)).map (fun x => (x.1 : Int)) = part (amt (oneSrv ms) R) k := by
      intro k
      induction k with
      | zero => rfl
      | succ k ih =>
        rw [List.range_succ, List.flatMap_append, List.map_append, ih, part]
        congr 1
        simp only [List.flatMap_cons, List.flatMap_nil, List.append_nil]
        unfold cellI amt oneSrv
        by_cases h : R < ms.getD k 0
        · rw [if_pos h, show min (ms.getD k 0) (R + 1) - min (ms.getD k 0) R = 1 by omega]; rfl
        · rw [if_neg h, show min (ms.getD k 0) (R + 1) - min (ms.getD k 0) R = 0 by omega]; rfl
    exact key _
theorem rnd_one {s : Nat} {ms : List Nat} (hs : 1 ≤ s) (hs2 : s ≤ 20) (hl : ms.length ≤ 5) (h : ∀ m ∈ ms, m ≤ 8) : ordOf (rnd (nsOf (eqQ s ms))) = oneOut ms := by
  rw [← rnd_eq (nsOf_pos (eqQ_ok hs hs2 hl h)) (byRound_perm h) (byRound_srt hs ms 8)]
  exact ord_byRound s ms 8
end Go.Proofs.Ytpfpaheafpibiaa
