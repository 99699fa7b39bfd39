/- ferryhytheref4.Mux in plain words: one row of 800 numbers, one of four. -/
import Derived.Test.YthnlpmjfibidcaaDoorMuxAny
import Derived.Test.YthnlpmjfibidcaaDoorRow2
namespace Go.Proofs.YthnlpmjfibidcaaDoor
open Go.RowKit
set_option linter.unusedVariables false

def dOf (o : Option UInt8) : Int := match o with | some b => (b.toNat : Int) + 1 | none => 0
def datAt (ss : List Str) (i : Nat) : Int := match ss[i / 200]? with | some s => dOf (s.came (i % 200)) | none => 0
def dataOf (ss : List Str) : List Int := (List.range 800).map (datAt ss)
def readOf (ss : List Str) : List Int := ss.map fun s => (s.read : Int)
theorem dataOf_len (ss : List Str) : (dataOf ss).length = 800 := by simp [dataOf]
theorem readOf_len (ss : List Str) : (readOf ss).length = ss.length := by simp [readOf]
theorem dOf_zero {o : Option UInt8} : dOf o = 0 ↔ o = none := by
  cases o with
  | none => simp [dOf]
  | some b => simp [dOf]; omega
theorem dOf_eq {o : Option UInt8} {c : UInt8} : dOf o = (c.toNat : Int) + 1 ↔ o = some c := by
  cases o with
  | none => simp [dOf]; omega
  | some b =>
    simp only [dOf, Option.some.injEq]
    constructor
    · intro h; exact UInt8.toNat_inj.1 (by omega)
    · rintro rfl; rfl
theorem dOf_bound (o : Option UInt8) : 0 ≤ dOf o ∧ dOf o ≤ 256 := by
  cases o with
  | none => simp [dOf]
  | some b => simp only [dOf]; have := UInt8.toNat_lt b; omega
theorem dataOf_get {ss : List Str} {m j : Nat} {s : Str} (hs : ss[m]? = some s) (hm : m < 4) (hj : j < 200) : (dataOf ss)[200 * m + j]? = some (dOf (s.came j)) := by
  have h1 : (200 * m + j) / 200 = m := by omega
  have h2 : (200 * m + j) % 200 = j := by omega
  simp only [dataOf, List.getElem?_map, List.getElem?_range (show 200 * m + j < 800 by omega), Option.map_some, datAt, h1, h2, hs]
theorem dataOf_set {ss : List Str} {m j r : Nat} {f : Nat → Option UInt8} {c : UInt8} (hs : ss[m]? = some ⟨f, r⟩) (hm : m < 4) (hj : j < 200) :
    (dataOf ss).set (200 * m + j) ((c.toNat : Int) + 1) = dataOf (ss.set m ⟨fun x => if x = j then some c else f x, r⟩) := by
  have hml : m < ss.length := (List.getElem?_eq_some_iff.1 hs).1
  apply List.ext_getElem?
  intro i
  rw [List.getElem?_set, dataOf_len]
  by_cases hi : i < 800
  · have hd : ∀ tt : List Str, (dataOf tt)[i]? = some (datAt tt i) := fun tt => by simp only [dataOf, List.getElem?_map, List.getElem?_range hi, Option.map_some]
    rw [hd, hd]
    by_cases he : 200 * m + j = i
    · subst he
      have h1 : (200 * m + j) / 200 = m := by omega
      have h2 : (200 * m + j) % 200 = j := by omega
      rw [if_pos rfl, if_pos hi]
      simp only [datAt, h1, h2, List.getElem?_set_self hml, if_pos, dOf]
    · rw [if_neg he]
      congr 1
      unfold datAt
      by_cases h1 : i / 200 = m
      · have h2 : ¬ i % 200 = j := by omega
        rw [h1, hs, List.getElem?_set_self hml]
        simp only [if_neg h2]
      · rw [List.getElem?_set_ne (fun h => h1 h.symm)]
  · rw [if_neg (by omega), List.getElem?_eq_none (by rw [dataOf_len]; omega), List.getElem?_eq_none (by rw [dataOf_len]; omega)]
theorem dataOf_setRead {ss : List Str} {m r r' : Nat} {f : Nat → Option UInt8} (hs : ss[m]? = some ⟨f, r⟩) : dataOf (ss.set m ⟨f, r'⟩) = dataOf ss := by
  have hml : m < ss.length := (List.getElem?_eq_some_iff.1 hs).1
  unfold dataOf
  apply List.map_congr_left
  intro i _
  unfold datAt
  by_cases h1 : i / 200 = m
  · rw [h1, hs, List.getElem?_set_self hml]
  · rw [List.getElem?_set_ne (fun h => h1 h.symm)]
theorem readOf_get {ss : List Str} {m : Nat} {s : Str} (hs : ss[m]? = some s) : (readOf ss)[m]? = some (s.read : Int) := by
  simp [readOf, hs]
theorem readOf_set {ss : List Str} {m r r' : Nat} {f f' : Nat → Option UInt8} : readOf (ss.set m ⟨f', r'⟩) = (readOf ss).set m (r' : Int) := by
  simp [readOf, List.map_set]
theorem readOf_same {ss : List Str} {m r : Nat} {f f' : Nat → Option UInt8} (hs : ss[m]? = some ⟨f, r⟩) : readOf (ss.set m ⟨f', r⟩) = readOf ss := by
  rw [readOf_set (r := r) (f := f)]
  obtain ⟨h1, h2⟩ := List.getElem?_eq_some_iff.1 (readOf_get hs)
  simp only at h2
  rw [← h2, List.set_getElem_self]
/-- A prefix of a frame does not reach behind itself. -/
theorem putF_past (f : Nat → Option UInt8) (q k : Nat) (d : List UInt8) : putF f q (d.take k) (q + k) = f (q + k) := by
  unfold putF
  rw [if_pos (by omega), show q + k - q = k by omega, List.getElem?_eq_none (by rw [List.length_take]; omega)]
  rfl
/-- 's[:n]' of a row: it owns the first of it. -/
theorem Sep.rowTake {B : Nat} {w : World} {A C : List Ent} {n size cap k : Nat} {e : TypeId} {xs : List Value} {ao : Option Addr} (h : Sep B w (A ++ Ent.row (.slice ao n cap) n size e xs :: C)) (hk : k ≤ n) :
    Sep B w (A ++ Ent.row (.slice ao k cap) k size e (xs.take (k * size)) :: C) := by
  have hm := h.mem
  have hle := Nat.mul_le_mul_right size hk
  refine h.upd (Nat.le_refl _) (fun k _ _ => rfl) ⟨by rw [List.length_take, hm.1.1]; omega, ?_⟩ ?_
  · rcases hm.1.2 with ⟨hv, hn⟩ | ⟨g, off, cap', cur, hv, ho, hnc, hcm, hcs, ht⟩
    · simp only [Value.slice.injEq] at hv
      obtain ⟨rfl, h0, rfl⟩ := hv
      left
      have : k = 0 := by omega
      subst this
      exact ⟨rfl, rfl⟩
    · simp only [Value.slice.injEq] at hv
      obtain ⟨rfl, _, rfl⟩ := hv
      right
      refine ⟨g, off, cap, cur, rfl, ho, by omega, hcm, hcs, ?_⟩
      rw [← ht, List.take_take, Nat.min_eq_left hle]
  · intro g' hg'
    have hg2 : (Value.slice ao n cap).ownBlock = some g' := by
      cases ao with
      | none => simp [Ent.row, Value.ownBlock] at hg'
      | some a => exact hg'
    have := hm.2 g' hg2
    exact ⟨this.1, this.2, .inl hg2⟩
end Go.Proofs.YthnlpmjfibidcaaDoor
