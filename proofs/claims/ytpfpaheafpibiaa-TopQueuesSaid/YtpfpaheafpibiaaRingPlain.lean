/- The ring: what waits, what has been sent, what lies between; plain lists. -/
import Derived.Test.YtpfpaheafpibiaaRows
import Derived.Test.YtpfpaheafpibiaaTurns
namespace Go.Proofs.Ytpfpaheafpibiaa
set_option linter.unusedVariables false

def wOf (ws : List Int) (i : Nat) : Nat := (ws.getD i 0).toNat
def ringSrv (ws : List Int) (h : Nat) (i r : Nat) : Nat := min (wOf ws i) (r * h)
theorem ringServed (ws : List Int) (h : Nat) : Served (ringSrv ws h) :=
  ⟨fun i => by simp [ringSrv], fun i r => by unfold ringSrv; rw [Nat.add_mul]; omega⟩
def ringOut (ws : List Int) (h : Nat) : List Int := turns (ringSrv ws h) ws.length (21 + ws.length)
def ringNow (ws : List Int) (h r a : Nat) : List Int := turns (ringSrv ws h) ws.length r ++ part (amt (ringSrv ws h) r) a
/-- What is left. -/
def ringLeft (ws : List Int) (h r a : Nat) : List Int := ws.mapIdx fun i x => x - ((ringSrv ws h i (if i < a then r + 1 else r) : Nat) : Int)

theorem wOf_get {ws : List Int} {i : Nat} {x : Int} (h : ws[i]? = some x) : wOf ws i = x.toNat := by
  unfold wOf; rw [List.getD_eq_getElem?_getD, h]; rfl
theorem ringLeft_len (ws : List Int) (h r a : Nat) : (ringLeft ws h r a).length = ws.length := by simp [ringLeft]
theorem ringLeft_get {ws : List Int} {h r a i : Nat} {x : Int} (hx : ws[i]? = some x) : (ringLeft ws h r a)[i]? = some (x - ((ringSrv ws h i (if i < a then r + 1 else r) : Nat) : Int)) := by
  simp [ringLeft, List.getElem?_mapIdx, hx]
theorem ringLeft_zero {ws : List Int} {h : Nat} : ringLeft ws h 0 0 = ws := by
  refine List.ext_getElem? fun i => ?_
  cases hx : ws[i]? with
  | none => simp [ringLeft, List.getElem?_mapIdx, hx]
  | some x => rw [ringLeft_get hx]; simp [(ringServed ws h).zero]
theorem ringLeft_wrap {ws : List Int} {h r : Nat} : ringLeft ws h r ws.length = ringLeft ws h (r + 1) 0 := by
  refine List.ext_getElem? fun i => ?_
  cases hx : ws[i]? with
  | none => simp [ringLeft, List.getElem?_mapIdx, hx]
  | some x =>
    have hi : i < ws.length := (List.getElem?_eq_some_iff.1 hx).1
    rw [ringLeft_get hx, ringLeft_get hx, if_pos hi, if_neg (by omega)]
/-- A station's turn. -/
theorem ringLeft_turn {ws : List Int} {h r a : Nat} {x : Int} (hx : ws[a]? = some x) : (ringLeft ws h r a).set a (x - ((ringSrv ws h a (r + 1) : Nat) : Int)) = ringLeft ws h r (a + 1) := by
  have ha : a < ws.length := (List.getElem?_eq_some_iff.1 hx).1
  refine List.ext_getElem? fun i => ?_
  by_cases hi : i = a
  · subst hi
    rw [List.getElem?_set_self (by rw [ringLeft_len]; exact ha), ringLeft_get hx, if_pos (by omega)]
  · rw [List.getElem?_set_ne (by omega)]
    cases hy : ws[i]? with
    | none => simp [ringLeft, List.getElem?_mapIdx, hy]
    | some y =>
      rw [ringLeft_get hy, ringLeft_get hy]
      by_cases h1 : i < a
      · rw [if_pos h1, if_pos (by omega)]
      · rw [if_neg h1, if_neg (by omega)]
/-- What is left at the station whose turn it is: what it sends is that, or the limit. -/
theorem ring_amt {ws : List Int} {h r a : Nat} {x : Int} (hx : ws[a]? = some x) (h0 : 0 ≤ x) : ∃ y : Nat, x - ((ringSrv ws h a r : Nat) : Int) = (y : Int) ∧ amt (ringSrv ws h) r a = min y h ∧ x - ((ringSrv ws h a (r + 1) : Nat) : Int) = (y : Int) - (min y h : Nat) ∧ (y : Int) ≤ x ∧ (0 < y → ((r * h : Nat) : Int) < x) := by
  refine ⟨(x - ((ringSrv ws h a r : Nat) : Int)).toNat, ?_⟩
  unfold amt ringSrv
  rw [wOf_get hx, Nat.add_mul]
  omega
theorem ring_stop {ws : List Int} {h r a : Nat} (hw : ∀ x ∈ ws, 0 ≤ x ∧ x ≤ 20) (hh : 1 ≤ h) (ha : a ≤ ws.length) (hr : r ≤ 20) (hz : ∀ y ∈ ringLeft ws h r a, y ≤ 0) : ringNow ws h r a = ringOut ws h := by
  have key : ∀ i, i < ws.length → wOf ws i ≤ ringSrv ws h i (if i < a then r + 1 else r) := fun i hi => by
    obtain ⟨x, hx⟩ : ∃ x, ws[i]? = some x := ⟨_, List.getElem?_eq_getElem hi⟩
    have h1 := hz _ (List.mem_iff_getElem?.2 ⟨i, ringLeft_get (h := h) (r := r) (a := a) hx⟩)
    have h2 := hw x (List.mem_iff_getElem?.2 ⟨i, hx⟩)
    rw [wOf_get hx]; omega
  have top : ∀ i R, ringSrv ws h i R ≤ wOf ws i := fun i R => Nat.min_le_left _ _
  refine turns_end (ringServed ws h) ha (by omega) ?_ ?_
  · intro i hi
    have h1 := key i (by omega)
    rw [if_pos hi] at h1
    have h2 := top i (21 + ws.length)
    have h3 := (ringServed ws h).le i (show r + 1 ≤ 21 + ws.length by omega)
    omega
  · intro i hi1 hi2
    have h1 := key i hi2
    rw [if_neg (by omega)] at h1
    have h2 := top i (21 + ws.length)
    have h3 := (ringServed ws h).le i (show r ≤ 21 + ws.length by omega)
    omega
theorem ringNow_len {ws : List Int} {h r a : Nat} (hw : ∀ x ∈ ws, 0 ≤ x ∧ x ≤ 20) (hn : ws.length ≤ 8) (ha : a ≤ ws.length) : (ringNow ws h r a).length ≤ 320 := by
  have top : ∀ i R, ringSrv ws h i R ≤ 20 := fun i R => by
    refine Nat.le_trans (Nat.min_le_left _ _) ?_
    unfold wOf
    rw [List.getD_eq_getElem?_getD]
    cases hx : ws[i]? with
    | none => simp
    | some x => have := hw x (List.mem_iff_getElem?.2 ⟨i, hx⟩); simp; omega
  unfold ringNow
  rw [List.length_append, turns_len (ringServed ws h), part_len]
  have h1 := psum_le (fun i => ringSrv ws h i r) 20 (fun i => top i r) ws.length
  have h2 := psum_le (amt (ringSrv ws h) r) 20 (fun i => by have := top i (r + 1); unfold amt; omega) a
  omega
theorem ringOut_now {ws : List Int} {h : Nat} : ringOut ws h = ringNow ws h (21 + ws.length) 0 := by simp [ringOut, ringNow, part]
theorem ringNow_turn {ws : List Int} {h r a : Nat} : ringNow ws h r (a + 1) = ringNow ws h r a ++ List.replicate (amt (ringSrv ws h) r a) (a : Int) := by
  simp [ringNow, part]
theorem ringNow_wrap {ws : List Int} {h r : Nat} : ringNow ws h r ws.length = ringNow ws h (r + 1) 0 := by
  simp [ringNow, part, turns]
/-- All is served in the end. -/
theorem ringSrv_all {ws : List Int} {h i : Nat} (hw : ∀ x ∈ ws, 0 ≤ x ∧ x ≤ 20) (hh : 1 ≤ h) : ringSrv ws h i (21 + ws.length) = wOf ws i := by
  have : wOf ws i ≤ 20 := by
    unfold wOf
    rw [List.getD_eq_getElem?_getD]
    cases hx : ws[i]? with
    | none => simp
    | some x => have := hw x (List.mem_iff_getElem?.2 ⟨i, hx⟩); simp; omega
  have h2 : (21 + ws.length) * 1 ≤ (21 + ws.length) * h := Nat.mul_le_mul_left _ hh
  unfold ringSrv
  omega

/-- Gap's own way: the place, the last place of each, the most. -/
def gstep (s : Nat × (Int → Option Nat) × Nat) (x : Int) : Nat × (Int → Option Nat) × Nat :=
  (s.1 + 1, fun y => if y = x then some s.1 else s.2.1 y, match s.2.1 x with | some q => max s.2.2 (s.1 - q - 1) | none => s.2.2)
def gapOf (l : List Int) : Nat := (l.foldl gstep (0, fun _ => none, 0)).2.2

/-- The very stretch that one station sends. -/
theorem gap_same (a : Int) : ∀ (m : Nat) (s : Nat × (Int → Option Nat) × Nat) (q : Nat), s.2.1 a = some q → s.1 = q + 1 →
    ((List.replicate m a).foldl gstep s).1 = s.1 + m ∧ (∀ y, ((List.replicate m a).foldl gstep s).2.1 y = if y = a then some (q + m) else s.2.1 y) ∧ ((List.replicate m a).foldl gstep s).2.2 = s.2.2
  | 0, s, q, h, e => ⟨rfl, fun y => by simp; intro e; rw [e, h], rfl⟩
  | m + 1, s, q, h, e => by
    rw [List.replicate_succ, List.foldl_cons]
    obtain ⟨h1, h2, h3⟩ := gap_same a m (gstep s a) (q + 1) (by simp [gstep, e]) (by simp [gstep, e])
    refine ⟨by rw [h1]; simp [gstep]; omega, fun y => ?_, ?_⟩
    · rw [h2]
      by_cases hy : y = a
      · rw [if_pos hy, if_pos hy]; congr 1; omega
      · rw [if_neg hy, if_neg hy]; simp [gstep, hy]
    · rw [h3]; simp [gstep, h]; omega
theorem gap_turn (a : Int) (m : Nat) (hm : 0 < m) (s : Nat × (Int → Option Nat) × Nat) :
    ((List.replicate m a).foldl gstep s).1 = s.1 + m ∧ (∀ y, ((List.replicate m a).foldl gstep s).2.1 y = if y = a then some (s.1 + m - 1) else s.2.1 y) ∧
      ((List.replicate m a).foldl gstep s).2.2 = (match s.2.1 a with | some q => max s.2.2 (s.1 - q - 1) | none => s.2.2) := by
  obtain ⟨m, rfl⟩ : ∃ k, m = k + 1 := ⟨m - 1, by omega⟩
  rw [List.replicate_succ, List.foldl_cons]
  obtain ⟨h1, h2, h3⟩ := gap_same a m (gstep s a) s.1 (by simp [gstep]) (by simp [gstep])
  refine ⟨by rw [h1]; simp [gstep]; omega, fun y => ?_, by rw [h3]; rfl⟩
  rw [h2]
  by_cases hy : y = a
  · rw [if_pos hy, if_pos hy]; congr 1
  · rw [if_neg hy, if_neg hy]; simp [gstep, hy]

/-- Who has sent: how long ago at most. -/
structure GInv (ws : List Int) (h r a : Nat) (s : Nat × (Int → Option Nat) × Nat) : Prop where
  most : s.2.2 ≤ h * (ws.length - 1)
  done : ∀ i, i < a → r * h < wOf ws i → ∃ q, s.2.1 (i : Int) = some q ∧ q < s.1 ∧ s.1 ≤ q + 1 + h * (a - 1 - i)
  old : ∀ i, a ≤ i → i < ws.length → ∀ r', r = r' + 1 → r' * h < wOf ws i → ∃ q, s.2.1 (i : Int) = some q ∧ q < s.1 ∧ s.1 ≤ q + 1 + h * (ws.length - 1 - i + a)
  fresh : ∀ i, a ≤ i → r = 0 → s.2.1 (i : Int) = none

theorem GInv.turn {ws : List Int} {h r a : Nat} {s : Nat × (Int → Option Nat) × Nat} (g : GInv ws h r a s) (hh : 1 ≤ h) (ha : a < ws.length) : GInv ws h r (a + 1) ((List.replicate (amt (ringSrv ws h) r a) (a : Int)).foldl gstep s) := by
  have hamt : amt (ringSrv ws h) r a = min (wOf ws a - r * h) h := by unfold amt ringSrv; rw [Nat.add_mul]; omega
  rw [hamt]
  by_cases hm : wOf ws a - r * h = 0
  · rw [show min (wOf ws a - r * h) h = 0 by omega]
    refine ⟨g.most, ?_, ?_, fun i hi hr => g.fresh i (by omega) hr⟩
    · intro i hi hw
      have : i ≠ a := fun e => by subst e; omega
      obtain ⟨q, h1, h2, h3⟩ := g.done i (by omega) hw
      refine ⟨q, h1, h2, Nat.le_trans h3 ?_⟩
      exact Nat.add_le_add_left (Nat.mul_le_mul_left h (by omega)) _
    · intro i hi1 hi2 r' hr hw
      obtain ⟨q, h1, h2, h3⟩ := g.old i (by omega) hi2 r' hr hw
      refine ⟨q, h1, h2, Nat.le_trans h3 ?_⟩
      exact Nat.add_le_add_left (Nat.mul_le_mul_left h (by omega)) _
  · obtain ⟨e1, e2, e3⟩ := gap_turn (a : Int) (min (wOf ws a - r * h) h) (by omega) s
    have hmh : min (wOf ws a - r * h) h ≤ h := Nat.min_le_right _ _
    have hm0 : 0 < min (wOf ws a - r * h) h := by omega
    generalize min (wOf ws a - r * h) h = m at *
    refine ⟨?_, ?_, ?_, ?_⟩
    · rw [e3]
      cases hq : s.2.1 (a : Int) with
      | none => exact g.most
      | some q =>
        obtain ⟨r', rfl⟩ : ∃ r', r = r' + 1 := ⟨r - 1, by
          rcases Nat.eq_zero_or_pos r with h0 | h0
          · have := g.fresh a (Nat.le_refl _) h0; rw [hq] at this; cases this
          · omega⟩
        obtain ⟨q', h1, h2, h3⟩ := g.old a (Nat.le_refl _) ha r' rfl (by have := Nat.add_mul r' 1 h; omega)
        rw [hq] at h1; cases h1
        have : h * (ws.length - 1 - a + a) = h * (ws.length - 1) := by congr 1; omega
        have := g.most
        simp only; omega
    · intro i hi hw
      rw [e1, e2]
      by_cases hia : i = a
      · subst hia
        refine ⟨s.1 + m - 1, by simp, by omega, by omega⟩
      · rw [if_neg (by omega)]
        obtain ⟨q, h1, h2, h3⟩ := g.done i (by omega) hw
        refine ⟨q, h1, by omega, ?_⟩
        have : h * (a + 1 - 1 - i) = h * (a - 1 - i) + h := by rw [show a + 1 - 1 - i = a - 1 - i + 1 by omega, Nat.mul_add]; omega
        omega
    · intro i hi1 hi2 r' hr hw
      rw [e1, e2, if_neg (by omega)]
      obtain ⟨q, h1, h2, h3⟩ := g.old i (by omega) hi2 r' hr hw
      refine ⟨q, h1, by omega, ?_⟩
      have : h * (ws.length - 1 - i + (a + 1)) = h * (ws.length - 1 - i + a) + h := by rw [← Nat.add_assoc, Nat.mul_add]; omega
      omega
    · intro i hi hr
      rw [e2, if_neg (by omega)]
      exact g.fresh i (by omega) hr
theorem GInv.wrap {ws : List Int} {h r : Nat} {s : Nat × (Int → Option Nat) × Nat} (g : GInv ws h r ws.length s) : GInv ws h (r + 1) 0 s := by
  refine ⟨g.most, fun i hi => by omega, ?_, fun i _ hr => by omega⟩
  intro i _ hi r' hr hw
  obtain rfl : r = r' := by omega
  obtain ⟨q, h1, h2, h3⟩ := g.done i hi hw
  exact ⟨q, h1, h2, by simpa using h3⟩
theorem GInv.part {ws : List Int} {h r : Nat} {s : Nat × (Int → Option Nat) × Nat} (g : GInv ws h r 0 s) (hh : 1 ≤ h) : ∀ a, a ≤ ws.length → GInv ws h r a ((part (amt (ringSrv ws h) r) a).foldl gstep s)
  | 0, _ => g
  | a + 1, ha => by
    rw [Go.Proofs.Ytpfpaheafpibiaa.part, List.foldl_append]
    exact (g.part hh a (by omega)).turn hh (by omega)
theorem gap_inv {ws : List Int} {h : Nat} (hh : 1 ≤ h) : ∀ r, GInv ws h r 0 ((turns (ringSrv ws h) ws.length r).foldl gstep (0, fun _ => none, 0))
  | 0 => ⟨Nat.zero_le _, fun i hi => by omega, fun i _ _ r' hr => by omega, fun i _ _ => rfl⟩
  | r + 1 => by
    rw [turns, List.foldl_append]
    exact ((gap_inv hh r).part hh ws.length (Nat.le_refl _)).wrap
theorem ring_gap {ws : List Int} {h : Nat} (hh : 1 ≤ h) : gapOf (ringOut ws h) ≤ h * (ws.length - 1) := by
  have key := fun R => (gap_inv (ws := ws) hh R).most
  unfold gapOf ringOut
  generalize 21 + ws.length = R
  exact key R

/-- Nobody has more than the limit: all goes station by station. -/
theorem ring_one {ws : List Int} {h : Nat} (hw : ∀ i, wOf ws i ≤ h) : ringOut ws h = part (wOf ws) ws.length := by
  have e : ∀ i, ringSrv ws h i 1 = wOf ws i := fun i => by have := hw i; unfold ringSrv; omega
  have := turns_stop (ringServed ws h) (n := ws.length) (r := 1) (20 + ws.length) (fun i hi => by have h1 := hw i; have h2 : 1 * h ≤ (1 + (20 + ws.length)) * h := Nat.mul_le_mul_right h (by omega); unfold ringSrv; omega)
  unfold ringOut
  rw [show 21 + ws.length = 1 + (20 + ws.length) by omega, this, turns, turns, List.nil_append]
  exact part_congr fun i _ => by have h1 := e i; have h2 := (ringServed ws h).zero i; unfold amt; rw [h2, Nat.zero_add, h1, Nat.sub_zero]
theorem gap_part (f : Nat → Nat) : ∀ a, ((part f a).foldl gstep (0, fun _ => none, 0)).2.2 = 0 ∧ ∀ i, a ≤ i → ((part f a).foldl gstep (0, fun _ => none, 0)).2.1 (i : Int) = none
  | 0 => ⟨rfl, fun _ _ => rfl⟩
  | a + 1 => by
    obtain ⟨h1, h2⟩ := gap_part f a
    rw [part, List.foldl_append]
    rcases Nat.eq_zero_or_pos (f a) with h0 | h0
    · rw [h0]; exact ⟨h1, fun i hi => h2 i (by omega)⟩
    · obtain ⟨e1, e2, e3⟩ := gap_turn (a : Int) (f a) h0 ((part f a).foldl gstep (0, fun _ => none, 0))
      rw [h2 a (Nat.le_refl _)] at e3
      exact ⟨e3.trans h1, fun i hi => by rw [e2, if_neg (by omega)]; exact h2 i (by omega)⟩

theorem ringAmt0 (ws : List Int) (h i : Nat) : amt (ringSrv ws h) 0 i = min (wOf ws i) h := by
  unfold amt ringSrv; simp
theorem ring_first {ws : List Int} {h i : Nat} (hi : i < ws.length) (hh : 1 ≤ h) (h0 : 0 < wOf ws i) :
    ¬ (i : Int) ∈ (ringOut ws h).take (psum (fun k => min (wOf ws k) h) i) ∧ (ringOut ws h)[psum (fun k => min (wOf ws k) h) i]? = some (i : Int) := by
  have e : psum (amt (ringSrv ws h) 0) i = psum (fun k => min (wOf ws k) h) i := psum_congr fun k _ => ringAmt0 ws h k
  obtain ⟨h1, h2⟩ := turns_first (ringSrv ws h) (n := ws.length) (20 + ws.length) hi (by rw [ringAmt0]; omega)
  rw [e] at h1 h2
  unfold ringOut
  rw [show 21 + ws.length = 20 + ws.length + 1 by omega]
  exact ⟨by rw [h1]; exact part_notMem _ _, h2⟩
theorem psum_wOf {ws : List Int} (hw : ∀ x ∈ ws, 0 ≤ x ∧ x ≤ 20) : ∀ k, k ≤ ws.length → ((psum (wOf ws) k : Nat) : Int) = (ws.take k).sum
  | 0, _ => by simp [psum]
  | k + 1, hk => by
    obtain ⟨x, hx⟩ : ∃ x, ws[k]? = some x := ⟨_, List.getElem?_eq_getElem (by omega)⟩
    have hb := hw x (List.mem_iff_getElem?.2 ⟨k, hx⟩)
    have ih := psum_wOf hw k (by omega)
    rw [psum, List.take_add_one, hx, wOf_get hx]
    simp only [Option.toList_some, List.sum_append, List.sum_cons, List.sum_nil]
    omega
theorem ring_total {ws : List Int} {h : Nat} (hw : ∀ x ∈ ws, 0 ≤ x ∧ x ≤ 20) (hh : 1 ≤ h) : ((ringOut ws h).length : Int) = ws.sum := by
  unfold ringOut
  rw [turns_len (ringServed ws h), psum_congr (g := wOf ws) (fun i _ => ringSrv_all hw hh), psum_wOf hw _ (Nat.le_refl _), List.take_length]
theorem ring_count {ws : List Int} {h j : Nat} {x : Int} (hw : ∀ x ∈ ws, 0 ≤ x ∧ x ≤ 20) (hh : 1 ≤ h) (hx : ws[j]? = some x) : ((ringOut ws h).count (j : Int) : Int) = x := by
  have hj : j < ws.length := (List.getElem?_eq_some_iff.1 hx).1
  have hb := hw x (List.mem_iff_getElem?.2 ⟨j, hx⟩)
  unfold ringOut
  rw [turns_count (ringServed ws h) hj, ringSrv_all hw hh, wOf_get hx]
  omega
end Go.Proofs.Ytpfpaheafpibiaa
