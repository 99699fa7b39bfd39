/- Ends of streams, in plain words: of each stream which bytes came, and how many were read. -/
import Derived.Test.YthnlpmjfibidcaaDoorBase
namespace Go.Proofs.YthnlpmjfibidcaaDoor
open Go.RowKit

/-- One stream: at each of its places the byte, where one came; and how many were read. -/
structure Str where
  came : Nat → Option UInt8
  read : Nat

def hasCell (o : Option UInt8) : Value := .bool o.isSome
def datCell (o : Option UInt8) : Value := .int .u8 ((o.getD 0).toNat : Int)
def strCells (s : Str) : List Value := (List.range 200).map (fun j => hasCell (s.came j)) ++ (List.range 200).map (fun j => datCell (s.came j)) ++ [.int .i64 s.read]
def Str.new : Str := ⟨fun _ => none, 0⟩
theorem strCells_len (s : Str) : (strCells s).length = 401 := by simp [strCells]

theorem strCells_has (s : Str) {j : Nat} (hj : j < 200) : (strCells s)[j]? = some (hasCell (s.came j)) := by
  unfold strCells
  rw [List.append_assoc, List.getElem?_append_left (by simp; omega)]
  simp [hj]
theorem strCells_dat (s : Str) {j : Nat} (hj : j < 200) : (strCells s)[200 + j]? = some (datCell (s.came j)) := by
  unfold strCells
  rw [List.append_assoc, List.getElem?_append_right (by simp), List.getElem?_append_left (by simp; omega)]
  simp [hj]
theorem strCells_read (s : Str) : (strCells s)[400]? = some (.int .i64 s.read) := by
  unfold strCells
  rw [List.getElem?_append_right (by simp)]
  simp

/-- The places behind a frame. -/
def putF (f : Nat → Option UInt8) (p : Nat) (d : List UInt8) : Nat → Option UInt8 := fun j => if p ≤ j then (d[j - p]?).or (f j) else f j
def Clash (f : Nat → Option UInt8) (p : Nat) (d : List UInt8) : Prop := ∃ (i : Nat) (c b : UInt8), d[i]? = some c ∧ f (p + i) = some b ∧ b ≠ c

theorem putF_nil (f : Nat → Option UInt8) (p : Nat) : putF f p [] = f := by
  funext j; simp [putF]
theorem putF_snoc {f : Nat → Option UInt8} {p k : Nat} {d : List UInt8} {c : UInt8} (hc : d[k]? = some c) : putF f p (d.take (k + 1)) = fun j => if j = p + k then some c else putF f p (d.take k) j := by
  funext j
  unfold putF
  by_cases hp : p ≤ j
  · rw [if_pos hp, if_pos hp, List.getElem?_take, List.getElem?_take]
    by_cases hj : j = p + k
    · subst hj
      rw [if_pos rfl, if_pos (by omega), show p + k - p = k by omega, hc]
      rfl
    · rw [if_neg hj]
      by_cases hlt : j - p < k
      · rw [if_pos (by omega), if_pos hlt]
      · rw [if_neg (by omega), if_neg hlt]
  · rw [if_neg hp, if_neg hp, if_neg (by omega)]

theorem strCells_set {f : Nat → Option UInt8} {r q : Nat} {c : UInt8} (hq : q < 200) :
    ((strCells ⟨f, r⟩).set q (.bool true)).set (200 + q) (.int .u8 (c.toNat : Int)) = strCells ⟨fun j => if j = q then some c else f j, r⟩ := by
  apply List.ext_getElem?
  intro j
  have hl := strCells_len ⟨f, r⟩
  have hl' := strCells_len ⟨fun j => if j = q then some c else f j, r⟩
  rw [List.getElem?_set, List.getElem?_set]
  by_cases h1 : j < 200
  · rw [if_neg (by omega), strCells_has _ h1]
    by_cases h2 : q = j
    · subst h2
      rw [if_pos rfl, if_pos (by rw [hl]; omega), strCells_has _ h1]
      simp [hasCell]
    · rw [if_neg h2, strCells_has _ h1]
      simp [Ne.symm h2]
  · by_cases h2 : j < 400
    · obtain ⟨i, rfl⟩ : ∃ i, j = 200 + i := ⟨j - 200, by omega⟩
      rw [strCells_dat _ (by omega)]
      by_cases h3 : q = i
      · subst h3
        rw [if_pos rfl, if_pos (by rw [List.length_set, hl]; omega), strCells_dat _ (by omega)]
        simp [datCell]
      · rw [if_neg (by omega), if_neg (by omega), strCells_dat _ (by omega)]
        simp [Ne.symm h3]
    · rw [if_neg (by omega), if_neg (by omega)]
      by_cases h3 : j = 400
      · subst h3; rw [strCells_read, strCells_read]
      · rw [List.getElem?_eq_none (by omega), List.getElem?_eq_none (by omega)]

theorem strCells_setRead {f : Nat → Option UInt8} {r r' : Nat} : (strCells ⟨f, r⟩).set 400 (.int .i64 (r' : Int)) = strCells ⟨f, r'⟩ := by
  unfold strCells
  rw [List.set_append_right _ _ (by simp)]
  simp

/-- How far a stream can be read from a place on, without a gap (so many places are looked at). -/
def runTo (f : Nat → Option UInt8) : Nat → Nat → Nat
  | 0, r => r
  | n + 1, r => if (f r).isSome then runTo f n (r + 1) else r
def bytesOf (f : Nat → Option UInt8) (r n : Nat) : List UInt8 := (List.range' r n).map fun j => (f j).getD 0
def Str.next (s : Str) : Nat := runTo s.came (200 - s.read) s.read
def Str.text (s : Str) : List UInt8 := bytesOf s.came s.read (s.next - s.read)
def Str.waits (s : Str) : Nat := ((List.range' s.read (200 - s.read)).filter fun j => (s.came j).isSome).length

theorem runTo_ge (f : Nat → Option UInt8) : ∀ (n r : Nat), r ≤ runTo f n r ∧ runTo f n r ≤ r + n
  | 0, r => ⟨Nat.le_refl _, Nat.le_refl _⟩
  | n + 1, r => by
    unfold runTo
    split
    · have := runTo_ge f n (r + 1); omega
    · omega
theorem runTo_step {f : Nat → Option UInt8} {n m r : Nat} (hn : n = m + 1) (h : (f r).isSome = true) : runTo f n r = runTo f m (r + 1) := by
  subst hn; rw [runTo, if_pos h]
theorem runTo_stop {f : Nat → Option UInt8} {n r : Nat} (h : n = 0 ∨ (f r).isSome = false) : runTo f n r = r := by
  cases n with
  | zero => rfl
  | succ n => rcases h with h | h
              · omega
              · rw [runTo, h]; rfl
theorem bytesOf_len (f : Nat → Option UInt8) (r n : Nat) : (bytesOf f r n).length = n := by simp [bytesOf]
theorem bytesOf_get (f : Nat → Option UInt8) {r n j : Nat} {c : UInt8} (h : (bytesOf f r n)[j]? = some c) : j < n ∧ c = (f (r + j)).getD 0 := by
  have hj : j < n := by have := (List.getElem?_eq_some_iff.1 h).1; rwa [bytesOf_len] at this
  refine ⟨hj, ?_⟩
  simp only [bytesOf, List.getElem?_map, List.getElem?_range' hj, Option.map_some, Nat.one_mul] at h
  exact (Option.some.inj h).symm

/-- Ends of four streams, in one block. -/
def Ent.mux (e : TypeId) (g : Nat) (ss : List Str) : Ent := Ent.blk1 g e (ss.flatMap strCells)
end Go.Proofs.YthnlpmjfibidcaaDoor
