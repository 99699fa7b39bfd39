/- Links in a slice that is read; what is wrong with them (vCode); the directed edges that they are. -/
import Derived.Test.YtnmddgjgmdegoaaDoorBase
import Derived.Test.YtnmddgjgmdegoaaDoorGraph
namespace Go.Proofs.YtnmddgjgmdegoaaDoor
open Go.RowKit
set_option linter.unusedVariables false

abbrev Lnk := Int × Int × Int
def lnkC (x : Lnk) : List Value := [.int .i64 x.1, .int .i64 x.2.1, .int .i64 x.2.2]
def InI (x : Int) : Prop := -9223372036854775808 ≤ x ∧ x ≤ 9223372036854775807
def LnkGood (x : Lnk) : Prop := InI x.1 ∧ InI x.2.1 ∧ InI x.2.2

theorem RowSl.lnk {B : Nat} {w : World} {ao : Option Addr} {L : List Lnk} (h : RowSl B w ao 3 (L.map lnkC)) {k : Nat} {x : Lnk} (hx : L[k]? = some x) :
    ∃ b off, ao = some ⟨b, off, none⟩ ∧ b < B ∧ w.cell? ⟨b, off + k * 3, none⟩ = some (.int .i64 x.1) ∧ w.cell? ⟨b, off + k * 3 + 1, none⟩ = some (.int .i64 x.2.1) ∧ w.cell? ⟨b, off + k * 3 + 2, none⟩ = some (.int .i64 x.2.2) := by
  obtain ⟨b, off, rfl, hb, hc⟩ := h k (lnkC x) (by rw [List.getElem?_map, hx]; rfl)
  exact ⟨b, off, rfl, hb, hc 0 _ rfl, hc 1 _ rfl, hc 2 _ rfl⟩

/-- What is wrong with a link between n points. -/
def lBad (n : Int) (x : Lnk) : Int :=
  if ¬ ((0 ≤ x.1 ∧ x.1 ≤ n - 1) ∧ (0 ≤ x.2.1 ∧ x.2.1 ≤ n - 1)) then 1 else if ¬ (1 ≤ x.2.2 ∧ x.2.2 ≤ 20) then 1 else if x.1 = x.2.1 then 3 else 0
def lsBad (n : Int) : List Lnk → Int
  | [] => 0
  | x :: r => if lBad n x = 0 then lsBad n r else lBad n x
def vCode (n : Int) (L : List Lnk) : Int := if ¬ (1 ≤ n ∧ n ≤ 8) then 1 else if 32 < L.length then 4 else lsBad n L
theorem lsBad_step {n : Int} {L : List Lnk} {k : Nat} {x : Lnk} (h : L[k]? = some x) : lsBad n (L.drop k) = if lBad n x = 0 then lsBad n (L.drop (k + 1)) else lBad n x := by
  have hk := List.getElem?_eq_some_iff.1 h
  rw [List.drop_eq_getElem_cons hk.1, hk.2, lsBad]
def LOk (n : Int) (x : Lnk) : Prop := (0 ≤ x.1 ∧ x.1 ≤ n - 1) ∧ (0 ≤ x.2.1 ∧ x.2.1 ≤ n - 1) ∧ (1 ≤ x.2.2 ∧ x.2.2 ≤ 20) ∧ x.1 ≠ x.2.1
theorem lBad_zero {n : Int} {x : Lnk} : lBad n x = 0 ↔ LOk n x := by
  unfold lBad LOk
  constructor
  · intro h
    split at h
    · omega
    · split at h
      · omega
      · split at h
        · omega
        · omega
  · intro h
    rw [if_neg (by omega), if_neg (by omega), if_neg (by omega)]
theorem lsBad_zero {n : Int} : ∀ {L : List Lnk}, lsBad n L = 0 ↔ ∀ x ∈ L, LOk n x
  | [] => by simp [lsBad]
  | x :: r => by
    rw [lsBad, List.forall_mem_cons]
    by_cases h : lBad n x = 0
    · rw [if_pos h, lsBad_zero]; exact ⟨fun h2 => ⟨lBad_zero.1 h, h2⟩, fun h2 => h2.2⟩
    · rw [if_neg h]; exact ⟨fun h2 => absurd h2 h, fun h2 => absurd (lBad_zero.2 h2.1) h⟩
/-- The links that are taken. -/
structure VOk (n : Nat) (L : List Lnk) : Prop where
  n1 : 1 ≤ n
  n8 : n ≤ 8
  few : L.length ≤ 32
  each : ∀ x ∈ L, LOk n x
theorem vCode_zero {n : Int} {L : List Lnk} : vCode n L = 0 ↔ ∃ m : Nat, n = (m : Int) ∧ VOk m L := by
  unfold vCode
  constructor
  · intro h
    split at h
    · omega
    · split at h
      · omega
      · obtain ⟨m, rfl⟩ := Int.eq_ofNat_of_zero_le (show 0 ≤ n by omega)
        exact ⟨m, rfl, by omega, by omega, by omega, lsBad_zero.1 h⟩
  · rintro ⟨m, rfl, h1, h2, h3, h4⟩
    rw [if_neg (by omega), if_neg (by omega)]
    exact lsBad_zero.2 h4
theorem vCode_nat {n : Nat} {L : List Lnk} : vCode n L = 0 ↔ VOk n L := by
  rw [vCode_zero]
  constructor
  · rintro ⟨m, h, hv⟩
    obtain rfl : n = m := by omega
    exact hv
  · exact fun h => ⟨n, rfl, h⟩

/-- The directed edges, in the order in which the program looks at them. -/
def edgesOf (x : Lnk) : List Edge := [(x.1.toNat, x.2.1.toNat, x.2.2), (x.2.1.toNat, x.1.toNat, x.2.2)]
def edges (L : List Lnk) : List Edge := L.flatMap edgesOf
theorem mem_edges {L : List Lnk} {e : Edge} : e ∈ edges L ↔ ∃ x ∈ L, e = (x.1.toNat, x.2.1.toNat, x.2.2) ∨ e = (x.2.1.toNat, x.1.toNat, x.2.2) := by
  unfold edges edgesOf
  simp
theorem VOk.net {n : Nat} {L : List Lnk} (h : VOk n L) : Net n (edges L) := by
  refine ⟨fun u v c he => ?_, fun u v c he => ?_⟩
  · obtain ⟨x, hx, he | he⟩ := mem_edges.1 he
    · have := h.each x hx
      unfold LOk at this
      simp only [Prod.mk.injEq] at he
      omega
    · have := h.each x hx
      unfold LOk at this
      simp only [Prod.mk.injEq] at he
      omega
  · obtain ⟨x, hx, he | he⟩ := mem_edges.1 he
    · refine mem_edges.2 ⟨x, hx, .inr ?_⟩
      simp only [Prod.mk.injEq] at he ⊢
      omega
    · refine mem_edges.2 ⟨x, hx, .inl ?_⟩
      simp only [Prod.mk.injEq] at he ⊢
      omega
theorem edges_take_succ {L : List Lnk} {k : Nat} {x : Lnk} (h : L[k]? = some x) : edges (L.take (k + 1)) = edges (L.take k) ++ edgesOf x := by
  unfold edges
  rw [List.take_add_one, h]
  simp
end Go.Proofs.YtnmddgjgmdegoaaDoor
