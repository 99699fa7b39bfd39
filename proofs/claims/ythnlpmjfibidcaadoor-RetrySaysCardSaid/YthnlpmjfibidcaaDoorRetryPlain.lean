/- What retry.Run computes, in plain words: stations (how often met, how many slots to wait), slot by slot. -/
import Derived.Test.YthnlpmjfibidcaaDoorBase
namespace Go.Proofs.YthnlpmjfibidcaaDoor

/-- So many slots who met others m times picks from. -/
def winOf (m : Int) : Int := if m ≤ 10 then 2 ^ m.toNat else 1024

theorem pow_small {m : Int} (h0 : 0 ≤ m) (h1 : m ≤ 10) : (1 : Int) ≤ 2 ^ m.toNat ∧ (2 : Int) ^ m.toNat ≤ 1024 := by
  obtain ⟨k, rfl⟩ := Int.eq_ofNat_of_zero_le h0
  have hk : k ≤ 10 := by omega
  rw [Int.toNat_natCast]
  have : k = 0 ∨ k = 1 ∨ k = 2 ∨ k = 3 ∨ k = 4 ∨ k = 5 ∨ k = 6 ∨ k = 7 ∨ k = 8 ∨ k = 9 ∨ k = 10 := by omega
  rcases this with rfl | rfl | rfl | rfl | rfl | rfl | rfl | rfl | rfl | rfl | rfl <;> decide

theorem winOf_bd {m : Int} (h0 : 0 ≤ m) : 1 ≤ winOf m ∧ winOf m ≤ 1024 := by
  unfold winOf
  split
  · exact pow_small h0 ‹_›
  · omega

abbrev Sts := List (Int × Int)

def tick1 (p : Int × Int) : Int × Int := if 0 < p.2 then (p.1, p.2 - 1) else p

def nowFrom (i : Nat) : Sts → List Int
  | [] => []
  | p :: r => if p.2 = 0 then (i : Int) :: nowFrom (i + 1) r else nowFrom (i + 1) r

def metOf (st : Sts) (i : Int) : Int := (st[i.toNat]?.getD (0, 0)).1

def pickAll : List Int → List Int → Sts → Sts
  | i :: now, p :: ps, st => pickAll now ps (st.set i.toNat (metOf st i + 1, p % winOf (metOf st i + 1)))
  | _, _, st => st

def retryGo (n : Int) : Nat → Sts → List Int → Int → List Int → List Int → List Int × List Int
  | 0, _, _, _, who, slots => (who, slots)
  | f + 1, st, ps, s, who, slots =>
    if (who.length : Int) < n then
      if (nowFrom 0 st).length = 1 then
        retryGo n f ((st.map tick1).set ((nowFrom 0 st).headD 0).toNat (metOf st ((nowFrom 0 st).headD 0), -1)) ps (s + 1) (who ++ [(nowFrom 0 st).headD 0]) (slots ++ [s])
      else if ps.length < (nowFrom 0 st).length then (who, slots)
      else retryGo n f (pickAll (nowFrom 0 st) ps (st.map tick1)) (ps.drop (nowFrom 0 st).length) (s + 1) who slots
    else (who, slots)

def retryRun (n : Int) (ps : List Int) : List Int × List Int := retryGo n 1001 (List.replicate n.toNat (0, 0)) ps 0 [] []

/-- The state in the middle of the look over all stations. -/
def tickTo (st : Sts) (k : Nat) : Sts := (st.take k).map tick1 ++ st.drop k

theorem tickTo_zero (st : Sts) : tickTo st 0 = st := by simp [tickTo]
theorem tickTo_all (st : Sts) (k : Nat) (h : st.length ≤ k) : tickTo st k = st.map tick1 := by simp [tickTo, List.take_of_length_le h, List.drop_of_length_le h]
theorem tickTo_len (st : Sts) (k : Nat) : (tickTo st k).length = st.length := by simp [tickTo]; omega
theorem tickTo_get {st : Sts} {k : Nat} {p : Int × Int} (h : st[k]? = some p) : (tickTo st k)[k]? = some p := by
  have hk : k < st.length := (List.getElem?_eq_some_iff.1 h).1
  unfold tickTo
  rw [List.getElem?_append_right (by simp; omega)]
  simp only [List.length_map, List.length_take, List.getElem?_drop]
  rw [show k + (k - min k st.length) = k by omega]
  exact h
theorem tickTo_succ {st : Sts} {k : Nat} {p : Int × Int} (h : st[k]? = some p) : tickTo st (k + 1) = (tickTo st k).set k (tick1 p) := by
  have hk : k < st.length := (List.getElem?_eq_some_iff.1 h).1
  unfold tickTo
  rw [List.take_add_one, h, List.map_append, List.set_append_right _ _ (by simp; omega)]
  simp only [List.length_map, List.length_take]
  rw [show k - min k st.length = 0 by omega, List.drop_eq_getElem_cons hk, List.set_cons_zero]
  simp
theorem tickTo_same {st : Sts} {k : Nat} {p : Int × Int} (h : st[k]? = some p) (hp : tick1 p = p) : tickTo st (k + 1) = tickTo st k := by
  rw [tickTo_succ h, hp]
  have h2 := tickTo_get h
  obtain ⟨hl, he⟩ := List.getElem?_eq_some_iff.1 h2
  rw [← he, List.set_getElem_self]

theorem nowFrom_append : ∀ (i : Nat) (a b : Sts), nowFrom i (a ++ b) = nowFrom i a ++ nowFrom (i + a.length) b
  | i, [], b => by simp [nowFrom]
  | i, p :: r, b => by
    simp only [List.cons_append, nowFrom, List.length_cons]
    rw [nowFrom_append (i + 1) r b, show i + 1 + r.length = i + (r.length + 1) by omega]
    split <;> simp

theorem nowTake_succ {st : Sts} {k : Nat} {p : Int × Int} (h : st[k]? = some p) : nowFrom 0 (st.take (k + 1)) = nowFrom 0 (st.take k) ++ (if p.2 = 0 then [(k : Int)] else []) := by
  have hk : k < st.length := (List.getElem?_eq_some_iff.1 h).1
  rw [List.take_add_one, h, nowFrom_append]
  simp only [Option.toList_some, List.length_take, nowFrom]
  rw [show 0 + min k st.length = k by omega]

theorem nowFrom_len : ∀ (i : Nat) (a : Sts), (nowFrom i a).length ≤ a.length
  | _, [] => by simp [nowFrom]
  | i, p :: r => by
    have := nowFrom_len (i + 1) r
    simp only [nowFrom]
    split <;> simp <;> omega

theorem nowFrom_bd : ∀ (i : Nat) (a : Sts) (x : Int), x ∈ nowFrom i a → (i : Int) ≤ x ∧ x < (i : Int) + a.length
  | _, [], x, h => by simp [nowFrom] at h
  | i, p :: r, x, h => by
    simp only [nowFrom] at h
    simp only [List.length_cons]
    split at h
    · rcases List.mem_cons.1 h with rfl | h
      · omega
      · have := nowFrom_bd (i + 1) r x h; omega
    · have := nowFrom_bd (i + 1) r x h; omega

/-- Bounds that keep every sum small. -/
def StOk (s : Int) (st : Sts) : Prop := ∀ p ∈ st, 0 ≤ p.1 ∧ p.1 ≤ s ∧ -1 ≤ p.2 ∧ p.2 ≤ 2000

theorem StOk.get {s : Int} {st : Sts} (h : StOk s st) {k : Nat} {p : Int × Int} (hp : st[k]? = some p) : 0 ≤ p.1 ∧ p.1 ≤ s ∧ -1 ≤ p.2 ∧ p.2 ≤ 2000 := h p (List.mem_iff_getElem?.2 ⟨k, hp⟩)
theorem StOk.set {s s' : Int} {st : Sts} (h : StOk s st) (hs : s ≤ s') {k : Nat} {q : Int × Int} (hq : 0 ≤ q.1 ∧ q.1 ≤ s' ∧ -1 ≤ q.2 ∧ q.2 ≤ 2000) : StOk s' (st.set k q) := by
  intro p hp
  rcases List.mem_or_eq_of_mem_set hp with hp | rfl
  · have := h p hp; omega
  · exact hq
theorem tick1_bd {s : Int} {p : Int × Int} (h : 0 ≤ p.1 ∧ p.1 ≤ s ∧ -1 ≤ p.2 ∧ p.2 ≤ 2000) : 0 ≤ (tick1 p).1 ∧ (tick1 p).1 ≤ s ∧ -1 ≤ (tick1 p).2 ∧ (tick1 p).2 ≤ 2000 := by
  unfold tick1
  split
  · exact ⟨by omega, by omega, by simp only; omega, by simp only; omega⟩
  · exact h
theorem StOk.tick {s s' : Int} {st : Sts} (h : StOk s st) (hs : s ≤ s') : StOk s' (st.map tick1) := by
  intro p hp
  obtain ⟨q, hq, rfl⟩ := List.mem_map.1 hp
  have := tick1_bd (h q hq)
  omega
theorem StOk.zero (n : Nat) : StOk 0 (List.replicate n (0, 0)) := by
  intro p hp
  obtain ⟨_, rfl⟩ := List.mem_replicate.1 hp
  simp

/-- In the middle of the round of picks: who picks is one of the list, each once, so his count is still below the slot's. -/
theorem pickAll_cons {now ps : List Int} {st : Sts} {k : Nat} {i p : Int} (hi : now[k]? = some i) (hp : ps[k]? = some p) :
    pickAll (now.drop k) (ps.drop k) st = pickAll (now.drop (k + 1)) (ps.drop (k + 1)) (st.set i.toNat (metOf st i + 1, p % winOf (metOf st i + 1))) := by
  obtain ⟨h1, e1⟩ := List.getElem?_eq_some_iff.1 hi
  obtain ⟨h2, e2⟩ := List.getElem?_eq_some_iff.1 hp
  rw [List.drop_eq_getElem_cons h1, List.drop_eq_getElem_cons h2, e1, e2, pickAll]

theorem pickAll_done {now ps : List Int} {st : Sts} {k : Nat} (h : now.length ≤ k) : pickAll (now.drop k) (ps.drop k) st = st := by
  rw [List.drop_of_length_le h]; cases ps.drop k <;> rfl
theorem pickAll_len : ∀ (now ps : List Int) (st : Sts), (pickAll now ps st).length = st.length
  | [], ps, st => by cases ps <;> rfl
  | i :: now, [], st => rfl
  | i :: now, p :: ps, st => by rw [pickAll, pickAll_len]; simp
theorem tmod_bd {p m : Int} (h0 : 0 ≤ p) (hm : 1 ≤ m) (hm2 : m ≤ 1024) : 0 ≤ p.tmod m ∧ p.tmod m ≤ 1024 ∧ p.tmod m = p % m := by
  rw [Int.tmod_eq_emod_of_nonneg h0]
  have h1 := Int.emod_nonneg p (b := m) (by omega)
  have h2 := Int.emod_lt_of_pos p (b := m) (by omega)
  omega

theorem retryGo_stop {n : Int} {f : Nat} {st : Sts} {ps : List Int} {s : Int} {who slots : List Int} (h : ¬ ((who.length : Int) < n)) : retryGo n f st ps s who slots = (who, slots) := by
  cases f <;> simp [retryGo, h]
theorem retryGo_one {n : Int} {f k : Nat} {st : Sts} {ps : List Int} {s i : Int} {who slots : List Int} (hk : k = f + 1) (h : (who.length : Int) < n) (hn : nowFrom 0 st = [i]) :
    retryGo n k st ps s who slots = retryGo n f ((st.map tick1).set i.toNat (metOf st i, -1)) ps (s + 1) (who ++ [i]) (slots ++ [s]) := by
  subst hk; simp [retryGo, h, hn]
theorem retryGo_few {n : Int} {f k : Nat} {st : Sts} {ps : List Int} {s : Int} {who slots : List Int} (hk : k = f + 1) (hn : ¬ (nowFrom 0 st).length = 1) (hp : ps.length < (nowFrom 0 st).length) :
    retryGo n k st ps s who slots = (who, slots) := by
  subst hk; simp [retryGo, hn, hp]
theorem retryGo_many {n : Int} {f k : Nat} {st : Sts} {ps : List Int} {s : Int} {who slots : List Int} (hk : k = f + 1) (h : (who.length : Int) < n) (hn : ¬ (nowFrom 0 st).length = 1) (hp : ¬ ps.length < (nowFrom 0 st).length) :
    retryGo n k st ps s who slots = retryGo n f (pickAll (nowFrom 0 st) ps (st.map tick1)) (ps.drop (nowFrom 0 st).length) (s + 1) who slots := by
  subst hk; simp [retryGo, h, hn, hp]
theorem metOf_tick {st : Sts} {i : Int} : metOf (st.map tick1) i = metOf st i := by
  unfold metOf
  rw [List.getElem?_map]
  cases st[i.toNat]? with
  | none => rfl
  | some p => simp only [Option.map_some, Option.getD_some, tick1]; split <;> rfl
end Go.Proofs.YthnlpmjfibidcaaDoor
